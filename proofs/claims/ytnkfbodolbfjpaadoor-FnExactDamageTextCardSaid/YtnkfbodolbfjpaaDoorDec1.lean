/- Decimal numerals: the library's function handed over, the program's and the reference's. -/
import Derived.Test.YtnkfbodolbfjpaaDoorDec0
import Derived.Test.YtnkfbodolbfjpaaDoorShD
import Derived.Sort.Grow
namespace Go.Proofs.YtnkfbodolbfjpaaDoor
open Go.RowKit
set_option maxRecDepth 100000 in
def S.s25 : SC := (.seq (.reg [⟨(.some 2), .none, .false, (.mv (.const (Go.Value.string { data := #[] })))⟩]) (.seq (.reg [⟨(.some 3), .none, .false, (.mv (.tmp 0))⟩, ⟨(.some 4), .none, .false, (.call (.func 46) [(.tmp 3), (.const (Go.Value.int Go.IntKind.i64 10))])⟩, ⟨(.some 2), .none, .false, (.mv (.tmp 4))⟩]) .ret))
set_option maxRecDepth 100000 in
theorem S.ok25 : stripF Tryd.prog Tryd.f25 = some S.s25 := by kernel_rfl
open Go.Sort
set_option maxRecDepth 10000
set_option maxHeartbeats 4000000
theorem lib_fmt (n : Int) (hn : -9223372036854775808 ≤ n ∧ n ≤ 9223372036854775807) : Spec Tryd.prog 46 [vI n, vI 10] (oS (bA (decL n))) := by
  refine ⟨fun vs w => by kernel_rfl, fun w R ι φ vs hR hF ho => ?_⟩
  cases hF with | cons h1 h2 =>
  cases h2 with | cons h2 h3 =>
  cases h3
  cases h1
  cases h2
  have hx := ho.2.2.2 (0, 0) (by simp [tabG])
  obtain ⟨hgR, cs, T, p, hb, hcs⟩ := hx
  have hcs : cs = tabCells := hcs
  have htab : Lib.TabIs Tryd.prog w "internal/strconv.uint64pow10" .u64 Lib.pow10Tab := by
    unfold Lib.TabIs World.var?
    rw [show Tryd.prog.globalNamed "internal/strconv.uint64pow10" = some 0 by kernel_rfl]
    simp only [Option.bind_some, hb]
    rw [hcs]
    rfl
  refine (Tryd.strconv_FormatInt_10 n hn.1 hn.2 w htab).mono ?_
  rintro e w1 ⟨rfl, k, os, rfl⟩
  have hbl : Below w.heap.size w (grow (w.drewN k) os) := ⟨rfl, rfl, rfl, by simp [grow], fun j hj => heap_grow_old (w.drewN k) os hj⟩
  have hn2 : ∀ o x, frO [] o = some x → False := fun o x h => by simp [frO] at h
  have hO : ObjsOk (grow (w.drewN k) os) R ι φ (frO []) := ⟨fun o x h => (hn2 o x h).elim, fun o x h => (hn2 o x h).elim, fun o p x y g h => (hn2 o x h).elim, ho.2.2.2.keep (fun _ h => h) fun b hb => hbl.block b (hR b hb)⟩
  have hsz : okI (.string (bA (decL n))) := by
    show (bA (decL n)).size ≤ maxLen
    rw [bA_size]
    have := decL_len hn
    unfold maxLen
    omega
  refine ⟨.string (bA (decL n)), rfl, R, ι, φ, BelowM.of_below hbl, fun b h => h, fun b h => Nat.lt_of_lt_of_le (hR b h) hbl.size, fun b h _ => .inl h, RA.of_pv rfl hsz, hO, fun g h => ?_, fun o h => rfl⟩
  obtain ⟨o, x, h, _⟩ := h
  exact (hn2 o x h).elim
theorem iDec (n : Int) (hn : -9223372036854775808 ≤ n ∧ n ≤ 9223372036854775807) : Spec Tryd.prog 25 [vI n] (oS (bA (decL n))) := by
  refine Spec.walk T.mixed Tryd.func25 S.ok25 (by simp [Tryd.f25]) fun hk => ?_
  clear hk
  unfold S.s25
  repeat' (first | refine R.mv rfl ?_ | refine R.reg ?_ | refine R.nil ?_ | refine R.seq ?_ | refine R.nseq ?_ | refine R.nblk ?_ | refine R.skip ?_ | refine R.blk ?_ | refine R.exit rfl ?_ | refine R.condT rfl ?_ | refine R.condF rfl ?_ | refine R.call (bor := false) rfl rfl (lib_fmt _ hn) rfl rfl rfl ?_ | refine R.call (bor := true) rfl rfl (lib_fmt _ hn) rfl rfl rfl ?_ | refine R.fcal (bor := false) rfl rfl (lib_fmt _ hn) rfl rfl rfl ?_ | refine R.fcal (bor := true) rfl rfl (lib_fmt _ hn) rfl rfl rfl ?_ | refine R.cond rfl (fun hc => ?_) (fun hc => ?_) | refine R.condN rfl (fun hc => ?_) (fun hc => ?_) | refine R.condB rfl (fun hc => ?_) (fun hc => ?_))
  all_goals first
    | exact R.ret ⟨.inr rfl, R.outS rfl rfl rfl⟩
    | skip
end Go.Proofs.YtnkfbodolbfjpaaDoor

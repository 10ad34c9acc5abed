/- Operations that only read, on values as they are known. No program is named here. -/
import Derived.Test.YtlblmofimjhbbaaDoorY1
import Derived.BigCall
namespace Go.Proofs.YtlblmofimjhbbaaDoor
open Go.RowKit
abbrev pvA (v : Value) : AV := .v (.c (.d (.pv v)))
abbrev rdA (κ : Ky) (xs : List (List D)) : AV := .v (.c (.d (.rd κ xs)))
/-- A constant. -/
def constA : Value → AV
  | .agg cs => if cs.toList.all (fun v => v.oneCell' && (match v with | .int k n => (Lit.int k n).wf | .string s => decide (s.size ≤ maxLen) | _ => true)) then .v (.agg (cs.toList.map fun v => .d (.pv v))) else .v (.c .dead)
  | .tuple _ => .v (.c .dead)
  | .int k n => if (Lit.int k n).wf then pvA (.int k n) else .v (.c .dead)
  | .string s => if s.size ≤ maxLen then pvA (.string s) else .v (.c .dead)
  | v => pvA v
def ev (env : Nat → AV) : Operand → AV
  | .tmp t => env t
  | .const v => constA v
  | .func f => .v (.c (.d (.fn f [])))
  | .global _ => .v (.c .dead)
section
variable {w : World} {R : Nat → Prop} {ι : Nat → Value} {dom : Nat → Prop}
theorem constA_ok (v : Value) : RA w R ι dom v (constA v) := by
  unfold constA
  split
  · rename_i cs
    split
    · rename_i h
      refine ⟨cs.toList, by simp, F2.of_get (by simp) fun i a b ha hb => ?_⟩
      rw [List.getElem?_map, ha] at hb
      obtain rfl := Option.some.inj hb
      have := List.all_eq_true.1 h a (List.mem_of_getElem? ha)
      simp only [Bool.and_eq_true] at this
      refine .pv this.1 ?_
      have h2 := this.2
      unfold okI
      split at h2 <;> simp_all
    · trivial
  · trivial
  · split
    · rename_i h; exact RD.pv rfl h
    · trivial
  · split
    · rename_i h; exact RD.pv rfl h
    · trivial
  · rename_i h1 h2 h3 h4
    refine RD.pv ?_ ?_
    · cases v <;> first | rfl | (exfalso; exact h1 _ rfl) | (exfalso; exact h2 _ rfl)
    · cases v <;> first | trivial | (exfalso; exact h3 _ _ rfl) | (exfalso; exact h4 _ rfl)
theorem ev_ok {env : Nat → AV} {a : Act} (h : ∀ d, RA w R ι dom (a.tmps.getD d undef) (env d)) (x : Operand) : RA w R ι dom (a.eval x) (ev env x) := by
  cases x with
  | tmp t => exact h t
  | const v => exact constA_ok v
  | func f => exact RD.fn (vs := []) rfl (by simp)
  | global g => trivial
end
/-- Whether a type's values take several cells, and how many. -/
def tyInfo (P : Program) (T : TypeId) : Option (Bool × Nat) :=
  match P.underlying T, P.info? T with
  | some (.struct _), some i | some (.array _ _), some i => some (true, i.size)
  | some _, some i => some (false, i.size)
  | _, _ => none
def fieldOff (P : Program) (T : TypeId) (f : Nat) : Option Nat :=
  match P.underlying T with
  | some (.struct fs) => match fs[f]? with
    | some fd => if P.cellsOf fd.type = 0 then none else some fd.offset
    | none => none
  | _ => none
def sliceTy (P : Program) (T : TypeId) : Option Ky :=
  match P.underlying T with
  | some (.slice e) => (P.info? e).map fun i => ⟨e, i.size⟩
  | _ => none
section
variable {P : Program} {T : TypeId} {w : World}
theorem run_tyInfo {ag : Bool} {s : Nat} (h : tyInfo P T = some (ag, s)) : (isAgg T).run P w = .ok ag w ∧ (sizeOf T).run P w = .ok s w := by
  unfold tyInfo at h
  split at h
  · rename_i fs i h1 h2
    cases h
    exact ⟨by simp [isAgg, run_underlying h1], by simp [sizeOf, typeInfo, h2]⟩
  · rename_i n e i h1 h2
    cases h
    exact ⟨by simp [isAgg, run_underlying h1], by simp [sizeOf, typeInfo, h2]⟩
  · rename_i d i hn1 hn2 h1 h2
    cases h
    refine ⟨?_, by simp [sizeOf, typeInfo, h2]⟩
    simp only [isAgg, Sem.run_bind, run_underlying h1, Result.andThen_ok]
    rfl
  · cases h
theorem run_fieldOff {f o g off : Nat} (h : fieldOff P T f = some o) : (Instr.fieldAt T (.pointer (some ⟨g, off, none⟩)) f).run P w = .ok (.pointer (some ⟨g, off + o, none⟩)) w := by
  unfold fieldOff at h
  split at h
  · rename_i fs h1
    split at h
    · rename_i fd h2
      split at h
      · cases h
      · rename_i h3
        cases h
        have hi : ∃ i, P.info? fd.type = some i ∧ i.size ≠ 0 := by
          unfold Program.cellsOf at h3
          cases hp : P.info? fd.type with
          | none => simp [hp] at h3
          | some i => exact ⟨i, rfl, by simpa [hp] using h3⟩
        obtain ⟨i, hi, hz⟩ := hi
        simp [Instr.fieldAt, run_underlying h1, h2, Instr.sureAddr, fieldPlace, sizeOf, typeInfo, hi, hz, Addr.add_lit]
    · cases h
  · cases h
theorem run_sliceTy {κ : Ky} (h : sliceTy P T = some κ) : P.underlying T = some (.slice κ.e) ∧ (P.info? κ.e).map (·.size) = some κ.k := by
  unfold sliceTy at h
  split at h
  · rename_i e' h1
    cases hi : P.info? e' with
    | none => simp [hi] at h
    | some i => simp only [hi, Option.map_some, Option.some.injEq] at h; subst h; exact ⟨h1, by simp [hi]⟩
  · cases h
end
/-- Strings: + and comparisons. -/
def strV (op : BinOp) (x y : ByteArray) : Option Value :=
  match op with
  | .add => if x.size + y.size ≤ maxLen then some (.string (x ++ y)) else none
  | .eql => some (.bool (x.toList == y.toList))
  | .neq => some (.bool !(x.toList == y.toList))
  | .lss => some (.bool (Op.bytesLess x.toList y.toList))
  | _ => none
def cmpV (op : BinOp) (x y : Int) : Option Value :=
  match op with
  | .eql => some (.bool (x == y))
  | .neq => some (.bool (x != y))
  | .lss => some (.bool (decide (x < y)))
  | .leq => some (.bool (decide (x ≤ y)))
  | .gtr => some (.bool (decide (x > y)))
  | .geq => some (.bool (decide (x ≥ y)))
  | _ => none
def numV (op : BinOp) (k : IntKind) (x y : Int) : Option Value :=
  match op with
  | .add => some (.int k (k.wrap (x + y)))
  | .sub => some (.int k (k.wrap (x - y)))
  | .mul => some (.int k (k.wrap (x * y)))
  | .quo => if y = 0 then none else some (.int k (k.wrap (x.tdiv y)))
  | .rem => if y = 0 then none else some (.int k (x.tmod y))
  | .and => some (.int k (k.wrap (BitVec.ofInt k.bits x &&& BitVec.ofInt k.bits y).toNat))
  | .or => some (.int k (k.wrap (BitVec.ofInt k.bits x ||| BitVec.ofInt k.bits y).toNat))
  | .xor => some (.int k (k.wrap (BitVec.ofInt k.bits x ^^^ BitVec.ofInt k.bits y).toNat))
  | .andNot => some (.int k (k.wrap (BitVec.ofInt k.bits x &&& ~~~ BitVec.ofInt k.bits y).toNat))
  | .shl => none
  | .shr => none
  | op => cmpV op x y
def shV (op : BinOp) (k : IntKind) (x y : Int) : Option Value :=
  if y < 0 then none else
  match op with
  | .shl => some (.int k (k.wrap (x * 2 ^ min y.toNat k.bits)))
  | .shr => some (.int k (x.fdiv (2 ^ min y.toNat k.bits)))
  | _ => none
def boolV (P : Program) (T : TypeId) (op : BinOp) (x y : Bool) : Option Value :=
  match P.underlying T with
  | some .bool => match op with
    | .eql => some (.bool (x == y))
    | .neq => some (.bool !(x == y))
    | _ => none
  | _ => none
def binV (P : Program) (T : TypeId) (op : BinOp) (a b : Value) : Option Value :=
  match a, b with
  | .int k x, .int k' y => match op with
    | .shl => shV .shl k x y
    | .shr => shV .shr k x y
    | op => if k = k' then numV op k x y else none
  | .bool x, .bool y => boolV P T op x y
  | .string x, .string y => strV op x y
  | _, _ => none
section
variable {P : Program} {T : TypeId} {w : World}
theorem run_numV {op : BinOp} {k : IntKind} {x y : Int} {r : Value} (h1 : op ≠ .shl) (h2 : op ≠ .shr) (h : numV op k x y = some r) : (binOp op T (.int k x) (.int k y)).run P w = .ok r w := by
  cases op <;> simp only [numV, cmpV, reduceCtorEq] at h <;> first
    | exact absurd rfl h1
    | exact absurd rfl h2
    | (cases h; simp [binOp, Op.intArith, Op.intBits, Op.intCmp]; done)
    | (split at h <;> first | (cases h; done) | (rename_i hy; cases h; simp [binOp, Op.intDiv, hy]))
theorem run_guard_int {op : BinOp} {x y : Operand} {k k' : IntKind} {u v : Int} : (eqGuard op T x y (.int k u) (.int k' v)).run P w = .ok () w := by cases op <;> rfl
theorem run_guard_bool {op : BinOp} {x y : Operand} {u v : Bool} : (eqGuard op T x y (.bool u) (.bool v)).run P w = .ok () w := by cases op <;> rfl
theorem run_guard_str {op : BinOp} {x y : Operand} {u v : ByteArray} : (eqGuard op T x y (.string u) (.string v)).run P w = .ok () w := by cases op <;> rfl
theorem run_eq_bool {u v : Bool} (ht : P.underlying T = some .bool) : (Op.equal T (.bool u) (.bool v)).run P w = .ok (u == v) w := by
  unfold Op.equal
  show (Op.equalIn (9999 + 1) T _ _).run P w = _
  rw [Op.equalIn]
  simp only [Sem.run_bind, run_underlying ht, Result.andThen_ok]
  rfl
theorem run_binV {op : BinOp} {x y : Operand} {a b r : Value} (h : binV P T op a b = some r) : (do eqGuard op T x y a b; binOp op T a b : Sem Value).run P w = .ok r w := by
  unfold binV at h
  split at h
  · rename_i k u k' v
    rw [Sem.run_bind, run_guard_int]
    simp only [Result.andThen_ok]
    split at h
    · simp only [shV] at h
      split at h
      · cases h
      · rename_i hy; cases h; simp [binOp, Op.shift, hy]
    · simp only [shV] at h
      split at h
      · cases h
      · rename_i hy; cases h; simp [binOp, Op.shift, hy]
    · rename_i n1 n2
      split at h
      · rename_i hk; subst hk; exact run_numV n1 n2 h
      · cases h
  · rename_i u v
    rw [Sem.run_bind, run_guard_bool]
    simp only [Result.andThen_ok]
    unfold boolV at h
    split at h
    · rename_i ht
      split at h <;> first
        | (cases h; done)
        | (cases h; show (do pure (.bool (← Op.equal T _ _)) : Sem Value).run P w = _; rw [Sem.run_bind, run_eq_bool ht]; rfl)
        | (cases h; show (do pure (.bool (!(← Op.equal T _ _))) : Sem Value).run P w = _; rw [Sem.run_bind, run_eq_bool ht]; rfl)
    · cases h
  · rename_i u v
    rw [Sem.run_bind, run_guard_str]
    simp only [Result.andThen_ok]
    unfold strV at h
    split at h <;> first
      | (cases h; done)
      | (cases h; simp [binOp, Op.stringOp]; done)
      | (split at h
         · rename_i hs; cases h
           unfold maxLen at hs
           simp only [binOp, Op.stringOp]
           rw [if_neg (by simp [IntKind.max, IntKind.signed, IntKind.bits]; omega)]
           rfl
         · cases h)
  · cases h
theorem wf_iff (k : IntKind) (n : Int) : (Lit.int k n).wf = true ↔ k.min ≤ n ∧ n ≤ k.max := Lit.wf_int_iff k n
theorem wf_rem {k : IntKind} {x y : Int} (hx : (Lit.int k x).wf = true) : (Lit.int k (x.tmod y)).wf = true := by
  rw [wf_iff] at *
  have h0 : k.min ≤ 0 ∧ 0 ≤ k.max := by cases k <;> simp [IntKind.min, IntKind.max, IntKind.signed, IntKind.bits]
  rcases Int.le_total 0 x with h | h
  · have h1 := Int.tmod_nonneg y h
    have h2 : x.tmod y ≤ x := by
      obtain ⟨n, rfl⟩ := Int.eq_ofNat_of_zero_le h
      rw [← Int.natAbs_of_nonneg h1, Int.natAbs_tmod]
      have := Nat.mod_le ((n : Int).natAbs) y.natAbs
      simp at this ⊢
      omega
    omega
  · have h1 : x.tmod y ≤ 0 := by
      have := Int.tmod_nonneg y (a := -x) (by omega)
      rw [Int.neg_tmod] at this
      omega
    have h2 : x ≤ x.tmod y := by
      have e : ((x.tmod y).natAbs : Int) ≤ x.natAbs := by
        rw [Int.natAbs_tmod]
        have := Nat.mod_le x.natAbs y.natAbs
        omega
      omega
    omega
theorem wf_shr {k : IntKind} {x : Int} {n : Nat} (hx : (Lit.int k x).wf = true) : (Lit.int k (x.fdiv (2 ^ n))).wf = true := by
  rw [wf_iff] at *
  have h0 : k.min ≤ 0 ∧ 0 ≤ k.max := by cases k <;> simp [IntKind.min, IntKind.max, IntKind.signed, IntKind.bits]
  have hp : (0 : Int) < 2 ^ n := Int.pow_pos (by omega)
  rw [Int.fdiv_eq_ediv_of_nonneg _ (by omega)]
  rcases Int.le_total 0 x with h | h
  · have h1 := Int.ediv_nonneg h (Int.le_of_lt hp)
    have h2 := Int.ediv_le_self (2 ^ n) h
    omega
  · have h1 : x / 2 ^ n ≤ 0 := by
      have := Int.ediv_nonneg_iff_of_pos hp (a := x)
      rcases Int.lt_or_le 0 (x / 2 ^ n) with h' | h'
      · have := this.1 (by omega)
        have hx0 : x = 0 := by omega
        subst hx0; simp
      · exact h'
    have h2 : x ≤ x / 2 ^ n := by
      rw [Int.le_ediv_iff_mul_le hp]
      have : 1 ≤ (2 : Int) ^ n := hp
      have := Int.mul_le_mul_of_nonpos_left (a := x) h this
      omega
    omega
theorem okI_binV {op : BinOp} {a b r : Value} (ha : okI a) (h : binV P T op a b = some r) : r.oneCell' = true ∧ okI r := by
  unfold binV at h
  split at h
  · rename_i k u k' v
    have hu : (Lit.int k u).wf = true := ha
    split at h
    · simp only [shV] at h
      split at h
      · cases h
      · cases h; exact ⟨rfl, WideShapes.wf_wrap _ _⟩
    · simp only [shV] at h
      split at h
      · cases h
      · cases h; exact ⟨rfl, wf_shr hu⟩
    · split at h
      · rename_i hk; subst hk
        unfold numV at h
        split at h <;> first
          | (cases h; exact ⟨rfl, WideShapes.wf_wrap _ _⟩)
          | (cases h; done)
          | (split at h <;> first | (cases h; done) | (cases h; first | exact ⟨rfl, WideShapes.wf_wrap _ _⟩ | exact ⟨rfl, wf_rem hu⟩))
          | (unfold cmpV at h; split at h <;> cases h <;> exact ⟨rfl, trivial⟩)
      · cases h
  · unfold boolV at h
    split at h
    · split at h <;> cases h <;> exact ⟨rfl, trivial⟩
    · cases h
  · unfold strV at h
    split at h <;> first
      | (cases h; exact ⟨rfl, trivial⟩)
      | (cases h; done)
      | (split at h
         · rename_i hs; cases h; exact ⟨rfl, by simpa [okI] using hs⟩
         · cases h)
  · cases h
end
end Go.Proofs.YtlblmofimjhbbaaDoor

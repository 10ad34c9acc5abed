/- Nothing of its own: what the texts behind it look for under this name. -/
import Derived.Test.YtnkfbodolbfjpaaDoorBel
import Derived.Lib.Strings

/- What is proved here: the product of two fractions that may be invalid: its cases. No program in sight. -/
import Derived.Test.YtdgdlpnhhelgnaaRatP
namespace Go.Proofs.Ytdgdlpnhhelgnaa
open Go.RowKit

def fmul (an ad bn bd : Int) : FR := if fboth an ad bn bd = 0 then fmulV an ad bn bd else ⟨0, 0, fboth an ad bn bd⟩
theorem fmul_0 {an ad bn bd : Int} (h : fboth an ad bn bd = 0) : fmul an ad bn bd = fmulV an ad bn bd := if_pos h
theorem fmul_8 {an ad bn bd : Int} (h : ¬ fboth an ad bn bd = 0) : fmul an ad bn bd = ⟨0, 0, fboth an ad bn bd⟩ := if_neg h
theorem bp_gen' {P : Program} {f : Func} {Q : Ending → World → Prop} {ex : Exit} {a : Act} {w : World} (F : World → Prop) (hF : F w) (h : ∀ W, F W → bodyPost P f Q ex a W) : bodyPost P f Q ex a w := h w hF
end Go.Proofs.Ytdgdlpnhhelgnaa

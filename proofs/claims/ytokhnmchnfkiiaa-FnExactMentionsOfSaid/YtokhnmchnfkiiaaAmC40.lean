/- MentionsOf of the program. No conditions. -/
import Derived.Test.YtokhnmchnfkiiaaAmC39
namespace Go.Proofs.Ytokhnmchnfkiiaa.Am
open Go Go.RowKit Go.Proofs
set_option linter.unusedSimpArgs false
set_option linter.unusedVariables false

theorem q_mentionsOfB (d : Bool) (p : Pk) (hp : p.Len) (h : packF p = 0) : OCall Try.prog 38 none [p.av d] (some (false, 9, (putS [] (mentT p)).map strCells)) (.agg [.v (.int .i64 0), .arr 0 0 0 (putS [] (mentT p)).length]) := by
  refine own_of_code (G := Go1 11) (verso 11) mixed0 Try.func38 rfl (by decide) (by simp [Try.f38]) 11 (by simp) (by intro s e es h; cases h; exact fr_str _) ?_
  simp only [Try.f38, Go1, inArrs]
  simp
  refine call_p (q_pack d p hp) (by simp) ?_
  simp [h]
  refine call_n 11 (q_mentO d p (packF_ok h)) (by simp) ?_
  simp

end Go.Proofs.Ytokhnmchnfkiiaa.Am

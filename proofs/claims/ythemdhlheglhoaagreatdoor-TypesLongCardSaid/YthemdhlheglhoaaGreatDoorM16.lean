/- The abstract machine and its walks (a verified interpreter of the model's code: plain definitions and lemmas, no condition). Printed by a program from longer texts: names made short. -/
import Derived.Test.YthemdhlheglhoaaGreatDoorM11
import Derived.Test.YthemdhlheglhoaaGreatDoorM5
set_option linter.unusedSectionVars false
set_option linter.unusedSimpArgs false
set_option linter.unusedVariables false
set_option maxHeartbeats 64000000
noncomputable section
namespace Go.Proofs.YthemdhlheglhoaaGreatDoor.a8
section
open Go Go.RowKit
variable [Lay]
theorem V2 (z:V):∀n,hG [z] n=List.replicate n z
 | 0=>rfl
 | n+1=>by rw [hG,V2 z n];rfl
theorem akf {h:ah} {n:Nat} {z:V} {k bg:IntKind} (aV:n<=1000000):sW 1 [z] (.int k (n:Int)) (.int bg (n:Int)) h=.val (.slice (aj h.next) 0 n n) (h.new (.bE (List.replicate n z) 0 false)):=by unfold sW;simp only [V.ep,oz,List.length_singleton,Int.toNat_natCast];rw [show (decide ((0:Int)<=(n:Int))&&(decide ((n:Int)<=(n:Int))&&decide ((n:Int)<=1000000))&&Nat.beq 1 1)=true from by rw [decide_eq_true (by omega),decide_eq_true (by omega),decide_eq_true (by omega)];rfl];rw [cond_true,V2,UE (by rw [List.length_replicate];unfold top;omega)]
end
end Go.Proofs.YthemdhlheglhoaaGreatDoor.a8

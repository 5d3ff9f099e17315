/- The abstract machine and its walks (a verified interpreter of the model's code: plain definitions and lemmas, no condition). Printed by a program from longer texts: names made short. -/
import Derived.Test.YthemdhlheglhoaaGreatDoorM11
set_option linter.unusedSectionVars false
set_option linter.unusedSimpArgs false
set_option linter.unusedVariables false
set_option maxHeartbeats 64000000
noncomputable section
namespace Go.Proofs.YthemdhlheglhoaaGreatDoor.a7
section
open Go Go.RowKit
variable [Lay]
theorem R4 {size:Nat}:∀(us:List (List V)) (i:Nat),(∀u ∈ us,u.length=size)->(us.drop i).flatten=us.flatten.drop (i * size)
 | us,0,_=>by simp
 | [],i+1,_=>by simp
 | u::us,i+1,h=>by rw [List.drop_succ_cons,R4 us i (fun w q=>h w (by simp [q])),List.flatten_cons,show (i+1) * size=u.length+i * size from by rw [h u (by simp),Nat.succ_mul,Nat.add_comm],<-List.drop_drop,List.drop_left]
theorem Bg {size:Nat}:∀(us:List (List V)) (i:Nat),(∀u ∈ us,u.length=size)->(us.take i).flatten=us.flatten.take (i * size)
 | us,0,_=>by simp
 | [],i+1,_=>by simp
 | u::us,i+1,h=>by rw [List.take_succ_cons,List.flatten_cons,Bg us i (fun w q=>h w (by simp [q])),List.flatten_cons,show (i+1) * size=u.length+i * size from by rw [h u (by simp),Nat.succ_mul,Nat.add_comm],List.take_append];rw [List.take_of_length_le (show u.length<=u.length+i * size by omega),Nat.add_sub_cancel_left]
end
end Go.Proofs.YthemdhlheglhoaaGreatDoor.a7

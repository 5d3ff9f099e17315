/- The abstract machine and its walks (a verified interpreter of the model's code: plain definitions and lemmas, no condition). Printed by a program from longer texts: names made short. -/
import Derived.Test.YthemdhlheglhoaaGreatDoorM11
set_option linter.unusedSectionVars false
set_option linter.unusedSimpArgs false
set_option linter.unusedVariables false
namespace Go.Proofs.YthemdhlheglhoaaGreatDoor.a6
variable [Lay]
open Go Go.RowKit
theorem aa' {F:aO→Prop} {h:af} {size:Nat} (rB:List (List D)) (rk:List (List V)) (ai:rk.length=rB.length) (bm:∀cs ∈ rk,cs.length=size) (ft:∀(i:Nat) (e:List D) (u:List V),rB[i]? =some e→rk[i]? =some u→bV F h e u)
 (gQ:F (aq h.next)) (aV:rB.length≤top):∃H,h.new (.bb rk.flatten 0 false)=H∧Ext h H∧cZ F H size rB (.slice (aq h.next) 0 rB.length rB.length):=by
 have lW:=wc rk bm
 obtain ⟨H,au,aC,aM⟩:=L4 h size rB.length rk.flatten (by rw [lW,ai]) aV
 exact ⟨H,au,aC,aM.room,aV,⟨rk,aM.v,ai,bm,fun i e u a b=>(ft i e u a b).ext aC⟩,fun b q=>by rw [show b=aq h.next from q];exact gQ⟩
theorem Ac {F:aO→Prop} {h:af} {size:Nat} {ds:List D} {cs:List V} (bm:cs.length=size) (H:bV F h ds cs) (gQ:F (aq h.next)):∃g,h.new (.bb cs 0 false)=g∧Ext h g∧cZ F g size [ds] (.slice (aq h.next) 0 1 1):=by
 have:=aa' (F:=F) (h:=h) (size:=size) [ds] [cs] rfl (fun c q=>by rw [List.mem_singleton] at q;subst q;exact bm) (fun i e u a b=>by
  cases i with
  | zero=>simp only [List.getElem?_cons_zero,Option.some.injEq] at a b;subst a b;exact H
  | succ i=>simp at a) gQ (by show _≤top;unfold top;simp)
 simpa using this
theorem JN {size:Nat}:∀(us:List (List V)) (i:Nat),(∀u ∈ us,u.length=size)→(us.drop i).flatten=us.flatten.drop (i * size)
 | us,0,_=>by simp
 | [],i+1,_=>by simp
 | u::us,i+1,h=>by
   rw [List.drop_succ_cons,JN us i (fun w q=>h w (by simp [q])),List.flatten_cons,show (i+1) * size=u.length+i * size from by rw [h u (by simp),Nat.succ_mul,Nat.add_comm],←List.drop_drop,List.drop_left]
theorem JO {size:Nat}:∀(us:List (List V)) (i:Nat),(∀u ∈ us,u.length=size)→(us.take i).flatten=us.flatten.take (i * size)
 | us,0,_=>by simp
 | [],i+1,_=>by simp
 | u::us,i+1,h=>by
   rw [List.take_succ_cons,List.flatten_cons,JO us i (fun w q=>h w (by simp [q])),List.flatten_cons,show (i+1) * size=u.length+i * size from by rw [h u (by simp),Nat.succ_mul,Nat.add_comm],List.take_append]
   rw [List.take_of_length_le (show u.length≤u.length+i * size by omega),Nat.add_sub_cancel_left]
end Go.Proofs.YthemdhlheglhoaaGreatDoor.a6

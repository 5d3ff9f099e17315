/- The abstract machine, part K17 (a verified interpreter of the model's code: plain definitions and lemmas, no condition). -/
import Derived.Test.YtkjifhoiiciblaaK16
namespace Go.Proofs.Ytkjifhoiiciblaa.Am
open Go Go.RowKit

section
variable {P : Program}

/-- what a guard says -/
theorem guard_sound {E : Env} {nt : Nat} {r : Regs} {a : Act} (k : RegRel E nt r a) {all : Array Oper} {j : Nat} {g : Oper} {d : Nat} (hj : all[j]? = some g) (hd : g.dst = some d) (hdn : d < nt) (hdt : d ≤ top) :
    (∀ b, T.get .bad (pa d) r = .bool b → yielded all a.tmps j = some b) ∧ (∀ vs, T.get .bad (pa d) r = .tuple vs → yielded all a.tmps j = none) := by
  have hr := k.reg d hdt
  have hlt : d < a.tmps.size := by rw [k.size]; exact hdn
  have he : a.tmps[d]? = some (a.tmps.getD d undef) := by simp [Array.getD_eq_getD_getElem?, hlt]
  refine ⟨fun b hb => ?_, fun vs hb => ?_⟩
  · rw [hb] at hr
    simp only [Rel] at hr
    simp only [yielded, hj, Option.bind, hd, he, hr]
  · rw [hb] at hr
    simp only [Rel] at hr
    obtain ⟨arr, hr, _⟩ := hr
    simp only [yielded, hj, Option.bind, hd, he, hr]

theorem operRun_ok {op : OpC} {put : PutC} {call : CallF} {r r' : Regs} {h h' : Heap} (he : operRun op put call r h = .ok r' h') : ∃ v, op.run call r h = .val v h' ∧ r' = put.run r v := by
  unfold operRun at he
  cases ho : op.run call r h with
  | fail => rw [ho] at he; cases he
  | val v h1 =>
    rw [ho] at he
    simp only [RR.ok.injEq] at he
    obtain ⟨rfl, rfl⟩ := he
    exact ⟨v, rfl, rfl⟩

theorem operC_sound {w0 : World} {E : Env} {h h' : Heap} {w : World} {call : CallF} (hN : NamesOk P) (hcall : CallOk P w0 call) (hbody : CallBody P call) {all : Array Oper} {i : Nat} {o : Oper} (hi : all[i]? = some o) {nt : Nat} {r r' : Regs} {a : Act}
    (he : (operC P nt all o).run call r h = .ok r' h') (k : RegRel E nt r a) (s : Sim w0 E h w) {K : Act → World → Prop} {Q : Exit → Act → World → Prop}
    (hK : ∀ E' a' w', E.le E' → RegRel E' nt r' a' → Sim w0 E' h' w' → K a' w') : wpOp P all Q i K a w := by
  unfold operC at he
  cases hd : dstFine nt o.dst with
  | false => rw [hd] at he; cases he
  | true =>
    rw [hd] at he
    simp only [cond_true] at he
    have wanted : ∀ (r1 : Regs), operRun (cop P o) (putC o.dst) call r h = .ok r1 h' → r1 = r' → Region.wanted o (yielded all a.tmps) = true → wpOp P all Q i K a w := by
      intro r1 h1 e hw
      subst e
      obtain ⟨v, hv, rfl⟩ := operRun_ok h1
      simp only [wpOp, hi, hw, if_true]
      left
      exact cop_sound hN hcall hbody hv k s fun E' x w' q1 q2 q3 => hK E' _ w' q1 ((k.mono q1).put hd q2) q3
    have unwanted : r' = (putC o.dst).run r (.tuple []) → h' = h → Region.wanted o (yielded all a.tmps) = false → wpOp P all Q i K a w := by
      intro e1 e2 hw
      subst e1 e2
      simp only [wpOp, hi, hw, Bool.false_eq_true, if_false]
      exact hK E _ w (Env.le.refl E) (k.put hd (by simp only [Rel]; exact ⟨#[], rfl, rfl⟩)) s
    cases hg : o.guard with
    | none =>
      rw [hg] at he
      exact wanted r' he rfl (by simp [Region.wanted, hg])
    | some jw =>
      obtain ⟨j, want⟩ := jw
      rw [hg] at he
      simp only at he
      cases hj : all[j]? with
      | none => rw [hj] at he; cases he
      | some g =>
        rw [hj] at he
        simp only at he
        cases hgd : g.dst with
        | none => rw [hgd] at he; cases he
        | some d =>
          rw [hgd] at he
          simp only at he
          cases hc : (Nat.blt d nt && Nat.ble d top) with
          | false => rw [hc] at he; cases he
          | true =>
            rw [hc] at he
            simp only [cond_true, guardRun, evTmp] at he
            simp only [Bool.and_eq_true, Nat.blt_eq, Nat.ble_eq] at hc
            obtain ⟨g1, g2⟩ := guard_sound k hj hgd hc.1 hc.2
            cases hv : T.get .bad (pa d) r <;> rw [hv] at he <;> simp only at he <;> try (cases he; done)
            · rename_i b
              have hy := g1 b hv
              cases hb : (bif want then b else !b) with
              | true =>
                rw [hb] at he
                simp only [cond_true] at he
                refine wanted r' he rfl ?_
                simp only [Region.wanted, hg, hy]
                cases want <;> cases b <;> simp_all
              | false =>
                rw [hb] at he
                simp only [cond_false, RR.ok.injEq] at he
                refine unwanted he.1.symm he.2.symm ?_
                simp only [Region.wanted, hg, hy]
                cases want <;> cases b <;> simp_all
            · rename_i vs
              have hy := g2 vs hv
              simp only [RR.ok.injEq] at he
              refine unwanted he.1.symm he.2.symm ?_
              simp only [Region.wanted, hg, hy]
              rfl

theorem opsC_sound {w0 : World} {call : CallF} (hN : NamesOk P) (hcall : CallOk P w0 call) (hbody : CallBody P call) {all : Array Oper} {nt : Nat} {Q : Exit → Act → World → Prop} : ∀ (l : List Oper) (i : Nat), (∀ j, l[j]? = all[i + j]?) →
    ∀ (E : Env) (r r' : Regs) (h h' : Heap) (a : Act) (w : World), (opsC P nt all l).run call r h = .ok r' h' → RegRel E nt r a → Sim w0 E h w →
    (∀ E' a' w', E.le E' → RegRel E' nt r' a' → Sim w0 E' h' w' → Q .normal a' w') → wpOps P all Q (List.range' i l.length) a w
  | [], i, _, E, r, r', h, h', a, w, he, k, s, hQ => by
    simp only [opsC, RR.ok.injEq] at he
    obtain ⟨rfl, rfl⟩ := he
    simp only [List.length_nil, List.range'_zero, wpOps]
    exact hQ E a w (Env.le.refl E) k s
  | o :: os, i, hl, E, r, r', h, h', a, w, he, k, s, hQ => by
    simp only [opsC, seqRun] at he
    have hi : all[i]? = some o := by have := hl 0; simpa using this.symm
    cases h1 : (operC P nt all o).run call r h with
    | fail => rw [h1] at he; cases he
    | ok r1 hh1 =>
      rw [h1] at he
      simp only at he
      rw [List.length_cons, List.range'_succ, wpOps_cons]
      refine operC_sound hN hcall hbody hi h1 k s fun E' a' w' q1 q2 q3 => ?_
      refine opsC_sound hN hcall hbody os (i + 1) (fun j => ?_) E' r1 r' hh1 h' a' w' he q2 q3 fun E2 a2 w2 p1 p2 p3 => hQ E2 a2 w2 (q1.trans p1) p2 p3
      have := hl (j + 1)
      simp only [List.getElem?_cons_succ] at this
      rw [this]
      congr 1
      omega
end
end Go.Proofs.Ytkjifhoiiciblaa.Am

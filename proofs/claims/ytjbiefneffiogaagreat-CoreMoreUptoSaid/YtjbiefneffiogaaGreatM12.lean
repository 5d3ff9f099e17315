/- The chapter's functions, walked by the abstract machine: plain lemmas, no condition. -/
import Derived.Test.YtjbiefneffiogaaGreatM11
import Derived.Test.YtjbiefneffiogaaGreatM9
set_option linter.unusedSectionVars false
set_option linter.unusedSimpArgs false
set_option linter.unusedVariables false

namespace Go.Proofs.YtjbiefneffiogaaGreat
open Go Am
section
variable (c : Co) (vs : List V) (h : Heap) (H : CoIn h c vs) (hw : wt c ≤ 400)
include H hw
theorem Check_ctr : Ctr Tryz.prog 20 [.agg vs] h fun x h' => x = .int .i64 (checkM c) ∧ Ext h h' := by
  have hol := order_small hw
  obtain ⟨va, vt, vl, rfl, Ha, Ht, Hl⟩ := H.open
  refine c20_ctr rfl (wpK_of ?_)
  unfold c20
  have e0 : Ext h (h.new (.ofL [.int .i64 c.k, .int .i64 c.x, .int .i64 c.n, .str c.s, va, vt, vl] 0 false)) := (Ext.refl h).new _
  have cb : (h.new (.ofL [.int .i64 c.k, .int .i64 c.x, .int .i64 c.n, .str c.s, va, vt, vl] 0 false)).get (pa h.next) = (.ofL [.int .i64 c.k, .int .i64 c.x, .int .i64 c.n, .str c.s, va, vt, vl] 0 false) := get_new_self _
  simp +contextual only [↓wA, wC, Ex.ends, evR, oneOf, top, ↓reduceIte, Nat.reduceEqDiff, Nat.reduceLeDiff, Nat.reduceAdd, Nat.reduceSub, Nat.reduceMul, reduceCtorEq, Int.reduceEq, Int.reduceLT, Int.reduceLE, Int.reduceNeg]
  refine callK_intro (mayW c _ _ (H.ext e0) hw) ?_
  rintro x h1 ⟨rfl, e1⟩
  have E1 := e0.trans e1
  have bx : h1.get (pa h.next) = (.ofL [.int .i64 c.k, .int .i64 c.x, .int .i64 c.n, .str c.s, va, vt, vl] 0 false) := by rw [e1.get _ (old_lt (by rw [next_new]; omega))]; exact cb
  have n1 : h.next < h1.next := by have := e1.next; rw [next_new] at this; omega
  unfold checkM
  cases hm : may ownP c with
  | false =>
    simp +contextual only [↓wA, wC, Ex.ends, evR, oneOf, top, ↓reduceIte, Nat.reduceEqDiff, Nat.reduceLeDiff, Nat.reduceAdd, Nat.reduceSub, Nat.reduceMul, reduceCtorEq, Int.reduceEq, Int.reduceLT, Int.reduceLE, Int.reduceNeg]
    exact E1
  | true =>
    have hb : boundM c = rising (order c) := by rw [boundM, if_pos hm]
    have hfr : freeM c = rising (free c []) := by rw [freeM, if_pos hm]
    simp +contextual only [bx, ↓wA, wC, Ex.ends, evR, oneOf, top, ↓reduceIte, Nat.reduceEqDiff, Nat.reduceLeDiff, Nat.reduceAdd, Nat.reduceSub, Nat.reduceMul, reduceCtorEq, Int.reduceEq, Int.reduceLT, Int.reduceLE, Int.reduceNeg]
    refine callK_intro (Order_ctr c _ _ (H.ext E1) (fit_of_wt c hw) (ok_of hw hm) (by omega)) ?_
    rintro x h2 ⟨O2, e2⟩
    skip
    have bx2 : h2.get (pa h.next) = (.ofL [.int .i64 c.k, .int .i64 c.x, .int .i64 c.n, .str c.s, va, vt, vl] 0 false) := by rw [e2.get _ (old_lt n1)]; exact bx
    have n2 : h.next < h2.next := Nat.lt_of_lt_of_le n1 e2.next
    have l2 := O2.v.len
    simp +contextual only [bx, bx2, l2, ↓wA, wC, Ex.ends, evR, oneOf, top, ↓reduceIte, Nat.reduceEqDiff, Nat.reduceLeDiff, Nat.reduceAdd, Nat.reduceSub, Nat.reduceMul, reduceCtorEq, Int.reduceEq, Int.reduceLT, Int.reduceLE, Int.reduceNeg]
    refine callK_intro (Bound_ctr c _ _ (H.ext (E1.trans e2)) hw) ?_
    rintro y h3 ⟨O3, e3⟩
    rw [hb] at O3
    have bx3 : h3.get (pa h.next) = (.ofL [.int .i64 c.k, .int .i64 c.x, .int .i64 c.n, .str c.s, va, vt, vl] 0 false) := by rw [e3.get _ (old_lt n2)]; exact bx2
    have l3 := O3.v.len
    have E3 := (E1.trans e2).trans e3
    by_cases hne : (order c).length = (rising (order c)).length
    · have g1 : (((order c).length : Int) = ((rising (order c)).length : Int)) = True := eq_true (by omega)
      have g1' : ((order c).length = (rising (order c)).length) = True := eq_true hne
      simp +contextual only [bx, bx2, bx3, l2, l3, g1, ↓wA, wC, Ex.ends, evR, oneOf, top, ↓reduceIte, Nat.reduceEqDiff, Nat.reduceLeDiff, Nat.reduceAdd, Nat.reduceSub, Nat.reduceMul, reduceCtorEq, Int.reduceEq, Int.reduceLT, Int.reduceLE, Int.reduceNeg]
      refine callK_intro (Unbound_ctr c _ _ (H.ext E3) hw hm (ok_of hw hm)) ?_
      rintro z h4 ⟨O4, e4⟩
      skip
      have l4 := O4.v.len
      have E4 := E3.trans e4
      by_cases hf : 0 < (rising (free c [])).length
      · have g2 : ((0 : Int) < ((rising (free c [])).length : Int)) = True := eq_true (by omega)
        have g2' : (0 < (rising (free c [])).length) = True := eq_true hf
        simp +contextual only [l4, g2, g1', g2', ne_eq, ↓wA, wC, Ex.ends, evR, oneOf, top, ↓reduceIte, Nat.reduceEqDiff, Nat.reduceLeDiff, Nat.reduceAdd, Nat.reduceSub, Nat.reduceMul, reduceCtorEq, Int.reduceEq, Int.reduceLT, Int.reduceLE, Int.reduceNeg]
        exact E4
      · have g2 : ((0 : Int) < ((rising (free c [])).length : Int)) = False := eq_false (by omega)
        have g2' : (0 < (rising (free c [])).length) = False := eq_false hf
        simp +contextual only [l4, g2, g1', g2', ne_eq, ↓wA, wC, Ex.ends, evR, oneOf, top, ↓reduceIte, Nat.reduceEqDiff, Nat.reduceLeDiff, Nat.reduceAdd, Nat.reduceSub, Nat.reduceMul, reduceCtorEq, Int.reduceEq, Int.reduceLT, Int.reduceLE, Int.reduceNeg]
        exact E4
    · have g1 : (((order c).length : Int) = ((rising (order c)).length : Int)) = False := eq_false (by omega)
      have g1' : ((order c).length = (rising (order c)).length) = False := eq_false hne
      simp +contextual only [bx, bx2, bx3, l2, l3, g1, g1', ne_eq, ↓wA, wC, Ex.ends, evR, oneOf, top, ↓reduceIte, Nat.reduceEqDiff, Nat.reduceLeDiff, Nat.reduceAdd, Nat.reduceSub, Nat.reduceMul, reduceCtorEq, Int.reduceEq, Int.reduceLT, Int.reduceLE, Int.reduceNeg]
      exact E3
end
end Go.Proofs.YtjbiefneffiogaaGreat

namespace Go.Proofs.YtjbiefneffiogaaGreat
open Go Am
noncomputable def slen (h : Heap) (mb : Pa) : Nat := match ld1B (h.get mb) 4 with
  | some (.int _ n) => n.toNat
  | _ => 0
theorem CoAt.box {h0 : Heap} {b : Pa} {c : Co} {vs : List V} (hg : h0.get b = .ofL vs 0 false) (ho : Old h0 b) (H : CoIn h0 c vs) : CoAt h0 (.ptr b 0) c := by
  refine ⟨b, 0, vs, rfl, H, fun h' e => ?_⟩
  have hl := H.len
  rw [e.get b ho, hg]
  refine ⟨by rw [ldn_ofL, if_pos (by omega), List.drop_zero, List.take_of_length_le (by omega)], fun j hj => by rw [ld1_ofL, Nat.zero_add]⟩
def LifeR (B : Nat) (h : Heap) (l : Li) (x : V) : Prop := ∃ vo, x = .agg [.int .i64 l.en, .int .i64 l.exn, .int .i64 l.read, .int .i64 l.steps, vo] ∧ SlO B h 1 vo l.out.length (bytesV l.out)
theorem LifeR.ext {B : Nat} {h h' : Heap} {l : Li} {x : V} (H : LifeR B h l x) (e : Ext h h') : LifeR B h' l x := by
  obtain ⟨vo, q1, q2⟩ := H
  exact ⟨vo, q1, q2.ext e⟩
set_option maxHeartbeats 4000000 in
theorem do_ctr (c : Co) (vs : List V) (h : Heap) (H : CoIn h c vs) (hwf : WfC [] c) {inp : V} {inpl : List UInt8} (Hin : SlV h 1 inp inpl.length (bytesV inpl)) (hlen : inpl.length ≤ 1073741824) {steps : Int} (h0s : 0 ≤ steps) (hs : steps ≤ 100000) :
    Ctr Tryz.prog 40 [.agg vs, .nilslice, inp, .int .i64 steps] h fun x h' => ∃ l, Does c inpl steps l ∧ LifeR h.next h' l x ∧ Ext h h' := by
  obtain ⟨va, vt, vl, rfl, Ha, Ht, Hl⟩ := H.open
  refine c40_ctr rfl (wpK_of ?_)
  unfold c40
  have oa := Ha.one
  have ot := Ht.one
  have ol := Hl.one
  have oi := Hin.one
  simp +contextual only [oa.1, oa.2.1, ot.1, ot.2.1, ol.1, ol.2.1, ↓wA, wC, Ex.ends, evR, oneOf, top, ↓reduceIte, Nat.reduceEqDiff, Nat.reduceLeDiff, Nat.reduceAdd, Nat.reduceSub, Nat.reduceMul, reduceCtorEq, Int.reduceEq, Int.reduceLT, Int.reduceLE, Int.reduceNeg]
  have e1 : Ext h ((h.new (.ofL [.int .i64 c.k, .int .i64 c.x, .int .i64 c.n, .str c.s, va, vt, vl] 0 false)).new (.ofL [.int .i64 0, .int .i64 0, .int .i64 0, .int .i64 0, .nilslice] 0 false)) := ((Ext.refl h).new _).new _
  have g1 : ((h.new (.ofL [.int .i64 c.k, .int .i64 c.x, .int .i64 c.n, .str c.s, va, vt, vl] 0 false)).new (.ofL [.int .i64 0, .int .i64 0, .int .i64 0, .int .i64 0, .nilslice] 0 false)).get (pa h.next) = .ofL [.int .i64 c.k, .int .i64 c.x, .int .i64 c.n, .str c.s, va, vt, vl] 0 false := by
    rw [get_new, if_neg (by rw [pa_eq, next_new]; omega), get_new_self]
  have z1 : ((h.new (.ofL [.int .i64 c.k, .int .i64 c.x, .int .i64 c.n, .str c.s, va, vt, vl] 0 false)).new (.ofL [.int .i64 0, .int .i64 0, .int .i64 0, .int .i64 0, .nilslice] 0 false)).get (pa (h.next + 1)) = .ofL [.int .i64 0, .int .i64 0, .int .i64 0, .int .i64 0, .nilslice] 0 false := by
    rw [get_new, if_pos (by rw [next_new])]
  have n1 : ((h.new (.ofL [.int .i64 c.k, .int .i64 c.x, .int .i64 c.n, .str c.s, va, vt, vl] 0 false)).new (.ofL [.int .i64 0, .int .i64 0, .int .i64 0, .int .i64 0, .nilslice] 0 false)).next = h.next + 2 := by rw [next_new, next_new]
  generalize ((h.new (.ofL [.int .i64 c.k, .int .i64 c.x, .int .i64 c.n, .str c.s, va, vt, vl] 0 false)).new (.ofL [.int .i64 0, .int .i64 0, .int .i64 0, .int .i64 0, .nilslice] 0 false)) = H1 at *
  refine callK_intro (does_ctr H1) ?_
  rintro pm h0 ⟨D, e2⟩
  have hn2 := e2.next
  have opm : pm.one = true ∧ pm.cells = [pm] ∧ pm.good = true := by
    obtain ⟨_, _, _, _, _, _, _, _, _, rfl, _⟩ := D
    exact ⟨rfl, rfl, rfl⟩
  have E0 := e1.trans e2
  have g0 : h0.get (pa h.next) = .ofL [.int .i64 c.k, .int .i64 c.x, .int .i64 c.n, .str c.s, va, vt, vl] 0 false := by rw [e2.get _ (old_lt (by omega))]; exact g1
  have z0 : h0.get (pa (h.next + 1)) = .ofL [.int .i64 0, .int .i64 0, .int .i64 0, .int .i64 0, .nilslice] 0 false := by rw [e2.get _ (old_lt (by omega))]; exact z1
  have Hin0 := Hin.ext E0
  have C0 : CoAt h0 (.ptr (pa h.next) 0) c := CoAt.box g0 (old_lt (by omega)) (H.ext E0)
  simp +contextual only [oi.1, oi.2.1, oi.2.2, opm.1, opm.2.1, opm.2.2, ↓wA, wC, Ex.ends, evR, oneOf, top, ↓reduceIte, Nat.reduceEqDiff, Nat.reduceLeDiff, Nat.reduceAdd, Nat.reduceSub, Nat.reduceMul, reduceCtorEq, Int.reduceEq, Int.reduceLT, Int.reduceLE, Int.reduceNeg]
  have M0 : PMach h0 (h0.new (.ofL [inp, .int .i64 0, .int .i64 0, .int .i64 0, .int .i64 0, .nilslice, .bool false, .ptr (pa h.next) 0, .nilptr, .nilslice, .nilslice, pm] 0 false)) (pa h0.next) (Kp (fun _ => .no) (fun b => b = pa h0.next) .mach) [] inp pm (start c) 0 (.ptr (pa h.next) 0) .nilptr .nilslice .nilslice := by
    refine ⟨⟨(Ext.refl h0).new _, fun b hb => ?_, rfl, fun i v q => (by cases i <;> simp [start] at q)⟩, Kp_yes rfl, get_new_self _, C0, .nil, ⟨[], ⟨rfl, rfl⟩, fun b q => q.elim, rfl, fun i a u q => (by simp [start] at q)⟩, ⟨rfl, rfl⟩, fun b q => q.elim⟩
    by_cases q : b = pa h0.next
    · subst q; rw [unPa_pa, next_new]; omega
    · rw [Kp_no (p := fun b => b = pa h0.next) q] at hb; exact absurd rfl hb
  generalize hmb : pa h0.next = mb at *
  generalize (h0.new (.ofL [inp, .int .i64 0, .int .i64 0, .int .i64 0, .int .i64 0, .nilslice, .bool false, .ptr (pa h.next) 0, .nilptr, .nilslice, .nilslice, pm] 0 false)) = H2 at *
  refine loopK_intro (fun r h' => r 9 = .ptr mb 0 ∧ r 3 = .int .i64 steps ∧ r 8 = .ptr (pa (h.next + 1)) 0 ∧ ∃ i : Nat, (∀ j, j < i → ((start c).nth inpl j).over = false) ∧ (i : Int) ≤ steps ∧ ∃ K' ad', PM h0 h' mb K' ad' inp pm ((start c).nth inpl i) i) (fun r h' => steps.toNat - slen h' mb) ?_ ?_
  · exact ⟨by simp only [↓wA, wC, ↓reduceIte, Nat.reduceEqDiff, reduceCtorEq], by simp only [↓wA, wC, ↓reduceIte, Nat.reduceEqDiff, reduceCtorEq], by simp only [↓wA, wC, ↓reduceIte, Nat.reduceEqDiff, reduceCtorEq], 0, fun j q => (by omega), h0s, _, _, _, _, _, _, M0⟩
  · rintro r h' ⟨r9, r3, r8, i, hov, hi, K', ad', cq, eq, wq, oq, M⟩
    unfold c40l1
    have gm := M.get
    have hsl : slen h' mb = i := by unfold slen; rw [gm, ld1_ofL]; simp
    have W := Wf.nth (inpl := inpl) hwf i
    have zh : h'.get (pa (h.next + 1)) = .ofL [.int .i64 0, .int .i64 0, .int .i64 0, .int .i64 0, .nilslice] 0 false := by rw [M.rep.ext.get _ (old_lt (by omega))]; exact z0
    have mz : (mb = pa (h.next + 1)) = False := eq_false fun q => by have := M.old.1; rw [q, unPa_pa] at this; omega
    have zm : (pa (h.next + 1) = mb) = False := eq_false fun q => by have := M.old.1; rw [← q, unPa_pa] at this; omega
    have ow := M.ou.one
    have hfin : ∀ (K' : Ks) (ad' : List Pa) (S : St) (g : Heap) (cq eq wq oq : V) (k : Blk), PMach h0 g mb K' ad' inp pm S i cq eq wq oq → SlO h.next (g.set (pa (h.next + 1)) k) 1 oq S.out.length (bytesV S.out) ∧ Ext h (g.set (pa (h.next + 1)) k) := by
      intro K' ad' S g cq eq wq oq k M
      refine ⟨(M.ou.1.mono (by omega)).mod ((Mod.refl (fun b => b = pa (h.next + 1)) g).set (fun _ => rfl) k) fun b q e => ?_, (E0.trans M.rep.ext).set (by omega) _⟩
      have := M.ou.1.base q
      rw [e, unPa_pa] at this
      omega
    cases ho : ((start c).nth inpl i).over with
    | true =>
      rw [ho] at gm
      simp +contextual only [r9, r3, r8, gm, ho, zh, mz, zm, ow.1, ow.2.1, ↓wA, wC, Ex.ends, evR, oneOf, top, ↓reduceIte, Nat.reduceEqDiff, Nat.reduceLeDiff, Nat.reduceAdd, Nat.reduceSub, Nat.reduceMul, reduceCtorEq, Int.reduceEq, Int.reduceLT, Int.reduceLE, Int.reduceNeg]
      have hf := hfin K' ad' _ h' cq eq wq oq (.ofL [.int .i64 ((start c).nth inpl i).en, .int .i64 ((start c).nth inpl i).exn, .int .i64 ((start c).nth inpl i).read, .int .i64 i, oq] 0 false) M
      exact ⟨⟨((start c).nth inpl i).en, ((start c).nth inpl i).exn, ((start c).nth inpl i).read, i, ((start c).nth inpl i).out⟩, ⟨i, hov, hi, .inl ho, by rw [if_pos ho]⟩, ⟨oq, rfl, hf.1⟩, hf.2⟩
    | false =>
      rw [ho] at gm
      by_cases hlt : (i : Int) < steps
      · have hlt' := eq_true hlt
        have w : IntKind.i64.wrap ((i : Int) + 1) = ((i + 1 : Nat) : Int) := by rw [wrap_i64 (by omega) (by omega)]; rfl
        have M1 := M.next ((start c).nth inpl i) ((i + 1 : Nat) : Int) cq eq wq oq rfl M.co M.er M.wr M.ou
        rw [ho] at M1
        simp +contextual only [r9, r3, r8, gm, ho, hlt', w, ↓wA, wC, Ex.ends, evR, oneOf, top, ↓reduceIte, Nat.reduceEqDiff, Nat.reduceLeDiff, Nat.reduceAdd, Nat.reduceSub, Nat.reduceMul, reduceCtorEq, Int.reduceEq, Int.reduceLT, Int.reduceLE, Int.reduceNeg]
        obtain ⟨sh, hk, hv⟩ := W.c.shape
        refine callK_intro (step_ctr ⟨_, _, _, _, M1⟩ (W.ok (by omega)) (by have := W.wl; omega) sh hv hk D Hin0 hlen W.read) ?_
        rintro x h2 ⟨K2, ad2, M2⟩
        simp +contextual only [r9, r3, r8, ↓wA, wC, Ex.ends, evR, oneOf, top, ↓reduceIte, Nat.reduceEqDiff, Nat.reduceLeDiff, Nat.reduceAdd, Nat.reduceSub, Nat.reduceMul, reduceCtorEq, Int.reduceEq, Int.reduceLT, Int.reduceLE, Int.reduceNeg]
        have M2' := M2
        obtain ⟨_, _, _, _, M2'⟩ := M2'
        have hsl2 : slen h2 mb = i + 1 := by unfold slen; rw [M2'.get, ld1_ofL]; simp
        refine ⟨⟨i + 1, fun j hj => ?_, by omega, K2, ad2, M2⟩, by rw [hsl, hsl2]; omega⟩
        by_cases e : j = i
        · subst e; exact ho
        · exact hov j (by omega)
      · have hlt' := eq_false hlt
        simp +contextual only [r9, r3, r8, gm, ho, hlt', zh, mz, zm, ow.1, ow.2.1, ↓wA, wC, Ex.ends, evR, oneOf, top, ↓reduceIte, Nat.reduceEqDiff, Nat.reduceLeDiff, Nat.reduceAdd, Nat.reduceSub, Nat.reduceMul, reduceCtorEq, Int.reduceEq, Int.reduceLT, Int.reduceLE, Int.reduceNeg]
        have M1 := M.next { (start c).nth inpl i with en := 4 } i cq eq wq oq rfl M.co M.er M.wr M.ou
        have hf := hfin K' ad' _ _ cq eq wq oq (.ofL [.int .i64 4, .int .i64 ((start c).nth inpl i).exn, .int .i64 ((start c).nth inpl i).read, .int .i64 i, oq] 0 false) M1
        simp only [ho] at hf
        exact ⟨⟨4, ((start c).nth inpl i).exn, ((start c).nth inpl i).read, i, ((start c).nth inpl i).out⟩, ⟨i, hov, hi, .inr (by omega), by rw [ho]; rfl⟩, ⟨oq, rfl, hf.1⟩, hf.2⟩
def Runs (c : Co) (inpl : List UInt8) (steps : Int) (l : Li) : Prop := if checkM c ≠ 0 ∨ steps < 0 then l = ⟨5, 0, 0, 0, []⟩ else Does c inpl steps l
theorem wf_of_check {c : Co} (hm : may (fun b c => ownR b c) c = may ownP c) (hf : fit 1048576 c) (h : checkM c = 0) : WfC [] c := by
  unfold checkM at h
  by_cases h1 : may ownP c = true
  · rw [h1] at h
    simp only [Bool.not_true, Bool.false_eq_true, if_false] at h
    split at h
    · omega
    · split at h
      · omega
      · rename_i q
        refine ⟨by rw [hm]; exact h1, ?_, hf⟩
        cases hq : free c [] with
        | nil => rfl
        | cons z l =>
          have : z ∈ rising (free c []) := mem_rising.2 (by rw [hq]; simp)
          have := List.length_pos_of_mem this
          omega
  · rw [Bool.not_eq_true] at h1
    rw [h1] at h
    simp only [Bool.not_false, if_true] at h
    omega
set_option maxHeartbeats 2000000 in
theorem run_ctr (c : Co) (vs : List V) (h : Heap) (H : CoIn h c vs) (hw : wt c ≤ 400) {inp : V} {inpl : List UInt8} (Hin : SlV h 1 inp inpl.length (bytesV inpl)) (hlen : inpl.length ≤ 1073741824) {steps : Int} (hs : steps ≤ 100000) :
    Ctr Tryz.prog 13 [.agg vs, inp, .int .i64 steps] h fun x h' => ∃ l, Runs c inpl steps l ∧ LifeR h.next h' l x ∧ Ext h h' := by
  obtain ⟨va, vt, vl, rfl, Ha, Ht, Hl⟩ := H.open
  refine c13_ctr rfl (wpK_of ?_)
  unfold c13
  have oa := Ha.one
  have ot := Ht.one
  have ol := Hl.one
  have e1 : Ext h ((h.new (.ofL [.int .i64 c.k, .int .i64 c.x, .int .i64 c.n, .str c.s, va, vt, vl] 0 false)).new (.ofL [.int .i64 0, .int .i64 0, .int .i64 0, .int .i64 0, .nilslice] 0 false)) := ((Ext.refl h).new _).new _
  have g1 : ((h.new (.ofL [.int .i64 c.k, .int .i64 c.x, .int .i64 c.n, .str c.s, va, vt, vl] 0 false)).new (.ofL [.int .i64 0, .int .i64 0, .int .i64 0, .int .i64 0, .nilslice] 0 false)).get (pa h.next) = .ofL [.int .i64 c.k, .int .i64 c.x, .int .i64 c.n, .str c.s, va, vt, vl] 0 false := by
    rw [get_new, if_neg (by rw [pa_eq, next_new]; omega), get_new_self]
  have z1 : ((h.new (.ofL [.int .i64 c.k, .int .i64 c.x, .int .i64 c.n, .str c.s, va, vt, vl] 0 false)).new (.ofL [.int .i64 0, .int .i64 0, .int .i64 0, .int .i64 0, .nilslice] 0 false)).get (pa (h.next + 1)) = .ofL [.int .i64 0, .int .i64 0, .int .i64 0, .int .i64 0, .nilslice] 0 false := by
    rw [get_new, if_pos (by rw [next_new])]
  have n1 : ((h.new (.ofL [.int .i64 c.k, .int .i64 c.x, .int .i64 c.n, .str c.s, va, vt, vl] 0 false)).new (.ofL [.int .i64 0, .int .i64 0, .int .i64 0, .int .i64 0, .nilslice] 0 false)).next = h.next + 2 := by rw [next_new, next_new]
  simp +contextual only [oa.1, oa.2.1, ot.1, ot.2.1, ol.1, ol.2.1, ↓wA, wC, Ex.ends, evR, oneOf, top, ↓reduceIte, Nat.reduceEqDiff, Nat.reduceLeDiff, Nat.reduceAdd, Nat.reduceSub, Nat.reduceMul, reduceCtorEq, Int.reduceEq, Int.reduceLT, Int.reduceLE, Int.reduceNeg]
  generalize ((h.new (.ofL [.int .i64 c.k, .int .i64 c.x, .int .i64 c.n, .str c.s, va, vt, vl] 0 false)).new (.ofL [.int .i64 0, .int .i64 0, .int .i64 0, .int .i64 0, .nilslice] 0 false)) = H1 at *
  refine callK_intro (Check_ctr c _ H1 (H.ext e1) hw) ?_
  rintro x h2 ⟨rfl, e2⟩
  have hn2 := e2.next
  have g2 : h2.get (pa h.next) = .ofL [.int .i64 c.k, .int .i64 c.x, .int .i64 c.n, .str c.s, va, vt, vl] 0 false := by rw [e2.get _ (old_lt (by omega))]; exact g1
  have z2 : h2.get (pa (h.next + 1)) = .ofL [.int .i64 0, .int .i64 0, .int .i64 0, .int .i64 0, .nilslice] 0 false := by rw [e2.get _ (old_lt (by omega))]; exact z1
  have E2 := e1.trans e2
  have zl : ∀ (k : Blk), Ext h (h2.set (pa (h.next + 1)) k) := fun k => E2.set (by omega) _
  have no : ∀ k : Blk, SlO h.next (h2.set (pa (h.next + 1)) k) 1 .nilslice 0 (bytesV []) := fun k => ⟨rfl, rfl⟩
  by_cases hc : checkM c = 0
  · have hc' := eq_true hc
    by_cases hz : steps < 0
    · have hz' := eq_true hz
      simp +contextual only [hc', hz', g2, z2, ↓wA, wC, Ex.ends, evR, oneOf, top, ↓reduceIte, Nat.reduceEqDiff, Nat.reduceLeDiff, Nat.reduceAdd, Nat.reduceSub, Nat.reduceMul, reduceCtorEq, Int.reduceEq, Int.reduceLT, Int.reduceLE, Int.reduceNeg]
      exact ⟨⟨5, 0, 0, 0, []⟩, (by unfold Runs; rw [if_pos (.inr hz)]), ⟨.nilslice, rfl, no _⟩, zl _⟩
    · have hz' := eq_false hz
      simp +contextual only [hc', hz', g2, z2, ↓wA, wC, Ex.ends, evR, oneOf, top, ↓reduceIte, Nat.reduceEqDiff, Nat.reduceLeDiff, Nat.reduceAdd, Nat.reduceSub, Nat.reduceMul, reduceCtorEq, Int.reduceEq, Int.reduceLT, Int.reduceLE, Int.reduceNeg]
      have hf := fit_of_wt c hw
      refine callK_intro (do_ctr c _ h2 (H.ext E2) (wf_of_check (may_ref hw) hf hc) (Hin.ext E2) hlen (by omega) hs) ?_
      rintro x h3 ⟨l, hl, ⟨vo, rfl, O⟩, e3⟩
      have z3 : h3.get (pa (h.next + 1)) = .ofL [.int .i64 0, .int .i64 0, .int .i64 0, .int .i64 0, .nilslice] 0 false := by rw [e3.get _ (old_lt (by omega))]; exact z2
      have ow := O.v.one
      simp +contextual only [z3, ow.1, ow.2.1, ↓wA, wC, Ex.ends, evR, oneOf, top, ↓reduceIte, Nat.reduceEqDiff, Nat.reduceLeDiff, Nat.reduceAdd, Nat.reduceSub, Nat.reduceMul, reduceCtorEq, Int.reduceEq, Int.reduceLT, Int.reduceLE, Int.reduceNeg]
      refine ⟨l, (by unfold Runs; rw [if_neg (by intro q; rcases q with q | q; exact q hc; exact hz q)]; exact hl), ⟨vo, rfl, ?_⟩, (E2.trans e3).set (by omega) _⟩
      refine (O.mono (by omega)).mod ((Mod.refl (fun b => b = pa (h.next + 1)) h3).set (fun _ => rfl) _) fun b q e => ?_
      have := O.base q
      rw [e, unPa_pa] at this
      omega
  · have hc' := eq_false hc
    simp +contextual only [hc', g2, z2, ↓wA, wC, Ex.ends, evR, oneOf, top, ↓reduceIte, Nat.reduceEqDiff, Nat.reduceLeDiff, Nat.reduceAdd, Nat.reduceSub, Nat.reduceMul, reduceCtorEq, Int.reduceEq, Int.reduceLT, Int.reduceLE, Int.reduceNeg]
    exact ⟨⟨5, 0, 0, 0, []⟩, (by unfold Runs; rw [if_pos (.inl hc)]), ⟨.nilslice, rfl, no _⟩, zl _⟩
end Go.Proofs.YtjbiefneffiogaaGreat

namespace Go.Proofs.YtjbiefneffiogaaGreat
def enOk (n : Int) : Prop := n = 0 ∨ n = 1 ∨ n = 6
structure Gr (S T : St) : Prop where
  read : S.read ≤ T.read
  out : S.out <+: T.out
  en : enOk S.en → enOk T.en
theorem Gr.refl (S : St) : Gr S S := ⟨Nat.le_refl _, List.prefix_refl _, id⟩
theorem Gr.trans {S T U : St} (h : Gr S T) (h' : Gr T U) : Gr S U := ⟨Nat.le_trans h.read h'.read, h.out.trans h'.out, fun q => h'.en (h.en q)⟩
theorem gr_ite {p : Prop} [Decidable p] {S A B : St} (h1 : Gr S A) (h2 : Gr S B) : Gr S (if p then A else B) := by split <;> assumption
theorem recMk_en (S : St) (l : List Co) : (S.recMk l).en = S.en := by
  induction l generalizing S with
  | nil => rfl
  | cons f l ih => exact ih (S.recF f)
section
variable (S : St)
theorem gr_mk (v : PV) : Gr S (S.mk_ v) := ⟨Nat.le_refl _, List.prefix_refl _, id⟩
theorem gr_trap : Gr S S.trap := ⟨Nat.le_refl _, List.prefix_refl _, fun _ => .inr (.inr rfl)⟩
theorem gr_tells (j : Nat) : Gr S (S.tells j) := by
  have key : ∀ w, Gr S (S.tellsL j w) := by
    intro w
    induction w with
    | nil => exact ⟨Nat.le_refl _, List.prefix_refl _, fun _ => .inl rfl⟩
    | cons a w ih =>
      simp only [St.tellsL]
      exact gr_ite ih ⟨Nat.le_refl _, List.prefix_refl _, id⟩
  exact key _
theorem gr_raises (j : Nat) : Gr S (S.raises j) := by
  have key : ∀ w, Gr S (S.raisesL j w) := by
    intro w
    induction w with
    | nil =>
      simp only [St.raisesL]
      split
      · exact ⟨Nat.le_refl _, List.prefix_refl _, fun _ => .inr (.inl rfl)⟩
      · exact ⟨Nat.le_refl _, List.prefix_refl _, fun _ => .inr (.inr rfl)⟩
    | cons a w ih =>
      simp only [St.raisesL]
      exact gr_ite ⟨Nat.le_refl _, List.prefix_refl _, id⟩ ih
  exact key _
theorem gr_tellsV (v : PV) : Gr S (S.tellsV v) := (gr_mk S v).trans (gr_tells _ _)
theorem gr_raisesV (v : PV) : Gr S (S.raisesV v) := (gr_mk S v).trans (gr_raises _ _)
theorem gr_out (o : List UInt8) (v : PV) : Gr S ({ S with out := S.out ++ o }.tellsV v) := by
  have : Gr S { S with out := S.out ++ o } := ⟨Nat.le_refl _, List.prefix_append _ _, id⟩
  exact this.trans (gr_tellsV _ v)
theorem gr_num2 {js : List Nat} {k : Int → Int → St} (h : ∀ a b, Gr S (k a b)) : Gr S (S.num2 js k) := by
  unfold St.num2; split
  · exact h _ _
  · exact gr_trap S
theorem gr_num1 {js : List Nat} {k : Int → St} (h : ∀ a, Gr S (k a)) : Gr S (S.num1 js k) := by
  unfold St.num1; split
  · exact h _
  · exact gr_trap S
theorem gr_text1 {js : List Nat} {k : List UInt8 → St} (h : ∀ a, Gr S (k a)) : Gr S (S.text1 js k) := by
  unfold St.text1; split
  · exact h _
  · exact gr_trap S
theorem gr_prim (inpl s : List UInt8) (js : List Nat) : Gr S (S.prim inpl s js) := by
  unfold St.prim
  refine gr_ite (gr_num2 S fun a b => gr_tellsV S _) ?_
  refine gr_ite (gr_num2 S fun a b => gr_tellsV S _) ?_
  refine gr_ite (gr_num2 S fun a b => gr_tellsV S _) ?_
  refine gr_ite (gr_num2 S fun a b => gr_tellsV S _) ?_
  refine gr_ite (gr_num2 S fun a b => gr_tellsV S _) ?_
  refine gr_ite (gr_num2 S fun a b => gr_tellsV S _) ?_
  refine gr_ite (gr_num2 S fun a b => gr_ite (gr_raisesV S _) (gr_tellsV S _)) ?_
  refine gr_ite (gr_num2 S fun a b => gr_ite (gr_raisesV S _) (gr_tellsV S _)) ?_
  refine gr_ite (gr_num1 S fun a => gr_tellsV S _) ?_
  refine gr_ite ?_ ?_
  · unfold St.getc
    refine gr_ite (gr_tellsV S _) ?_
    have : Gr S { S with read := S.read + 1 } := ⟨Nat.le_succ _, List.prefix_refl _, id⟩
    exact this.trans (gr_tellsV _ _)
  refine gr_ite (gr_num1 S fun a => gr_out S _ _) ?_
  refine gr_ite (gr_text1 S fun a => gr_out S _ _) ?_
  refine gr_ite (gr_text1 S fun a => gr_tellsV S _) ?_
  refine gr_ite (gr_num1 S fun a => gr_tellsV S _) ?_
  refine gr_ite ?_ ?_
  · unfold St.byteAt; split
    · exact gr_ite (gr_tellsV S _) (gr_raisesV S _)
    · exact gr_trap S
  refine gr_ite ?_ ?_
  · unfold St.cut; split
    · exact gr_ite (gr_tellsV S _) (gr_raisesV S _)
    · exact gr_trap S
  refine gr_ite ?_ ?_
  · unfold St.join; split
    · exact gr_ite (gr_tellsV S _) (gr_raisesV S _)
    · exact gr_trap S
  refine gr_ite ?_ (Gr.refl S)
  unfold St.set_; split
  · refine gr_ite ?_ (gr_trap S)
    have : Gr S { S with st := S.st.set (js.getD 0 0) (.thing 0 [js.getD 1 0]) } := ⟨Nat.le_refl _, List.prefix_refl _, id⟩
    exact this.trans (gr_tellsV _ _)
  · exact gr_trap S
theorem gr_goto (i : Nat) : Gr S (S.goto_ i) := by
  unfold St.goto_; split
  · exact ⟨Nat.le_refl _, List.prefix_refl _, id⟩
  · exact gr_trap S
theorem atoms_en (l : List At) : (S.atoms l).1.en = S.en := by
  have key : ∀ (l : List At) (p : St × List Nat), (l.foldl St.atomsF p).1.en = p.1.en := by
    intro l
    induction l with
    | nil => intro p; rfl
    | cons a l ih =>
      intro p
      rw [List.foldl_cons, ih]
      simp only [St.atomsF, St.atom]
      split
      · rfl
      · split <;> rfl
  exact key l (S, [])
theorem gr_step (inpl : List UInt8) : Gr S (S.step inpl) := by
  obtain ⟨eE, eC, eW, eO, eR, eL⟩ := St.atoms_e S S.c.a
  have hen := atoms_en S S.c.a
  have A : Gr S (S.atoms S.c.a).1 := ⟨by rw [eR]; exact Nat.le_refl _, by rw [eO]; exact List.prefix_refl _, fun q => by rw [hen]; exact q⟩
  unfold St.step
  generalize (S.atoms S.c.a).1 = T at *
  generalize (S.atoms S.c.a).2 = js at *
  refine A.trans ?_
  unfold St.does
  refine gr_ite (gr_tells T _) ?_
  refine gr_ite ⟨Nat.le_refl _, List.prefix_refl _, id⟩ ?_
  refine gr_ite (gr_prim T _ _ _) ?_
  refine gr_ite (gr_tellsV T _) ?_
  refine gr_ite ?_ ?_
  · unfold St.get_; split
    · exact gr_ite (gr_trap T) (gr_tells T _)
    · exact gr_trap T
  refine gr_ite ?_ ?_
  · unfold St.call; split
    · exact ⟨Nat.le_refl _, List.prefix_refl _, id⟩
    · exact gr_trap T
  refine gr_ite (gr_tellsV T _) ?_
  refine gr_ite ?_ ?_
  · obtain ⟨r1, r2, r3, r4, r5⟩ := recMk_rest T T.c.l.dropLast
    have r6 := recMk_en T T.c.l.dropLast
    unfold St.rec_
    exact ⟨by simp only [r4]; exact Nat.le_refl _, by simp only [r3]; exact List.prefix_refl _, fun q => by simp only [r6]; exact q⟩
  have ch : ∀ b j, Gr T (T.chooses b j) := by
    intro b j
    unfold St.chooses; split
    · exact gr_ite (gr_trap T) (gr_goto T _)
    · exact gr_ite (gr_goto T _) (gr_trap T)
    · exact gr_trap T
  exact gr_ite (ch _ _) (gr_ite (ch _ _) (gr_ite (gr_raises T _) (Gr.refl T)))
end
theorem gr_nth (S : St) (inpl : List UInt8) (i : Nat) : ∀ d, Gr (S.nth inpl i) (S.nth inpl (i + d))
  | 0 => Gr.refl _
  | d + 1 => (gr_nth S inpl i d).trans (gr_step _ inpl)
theorem en_nth (c : Co) (inpl : List UInt8) (i : Nat) : enOk ((start c).nth inpl i).en := by
  have := (gr_nth (start c) inpl 0 i).en (.inl rfl)
  rwa [Nat.zero_add] at this
theorem more_law {c : Co} {inpl : List UInt8} {s1 s2 : Int} {a b : Li} (hw : WfC [] c) (h0 : 0 ≤ s1) (h12 : s1 ≤ s2) (ha : Does c inpl s1 a) (hb : Does c inpl s2 b) :
    a.steps ≤ s1 ∧ (a.en = 4 → a.steps = s1) ∧ a.read ≤ inpl.length ∧ a.read ≤ b.read ∧ a.out <+: b.out ∧ (a.en = 4 ∨ a = b) := by
  obtain ⟨i, a1, a2, a3, rfl⟩ := ha
  obtain ⟨j, b1, b2, b3, rfl⟩ := hb
  have hread := (Wf.nth (inpl := inpl) hw i).read
  cases ho : ((start c).nth inpl i).over with
  | true =>
    have hji : j = i := by
      rcases Nat.lt_trichotomy j i with q | q | q
      · have := a1 j q
        rcases b3 with b3 | b3
        · rw [this] at b3; cases b3
        · omega
      · exact q
      · have := b1 i q
        rw [this] at ho; cases ho
    subst hji
    refine ⟨a2, fun q => ?_, by simp only; omega, Int.le_refl _, List.prefix_refl _, .inr (by rw [ho])⟩
    simp only [ho, if_true] at q
    have := en_nth c inpl j
    unfold enOk at this
    omega
  | false =>
    have hi : (i : Int) = s1 := by
      rcases a3 with a3 | a3
      · rw [a3] at ho; cases ho
      · exact a3
    have hij : i ≤ j := by
      by_cases q : j < i
      · have := a1 j q
        rcases b3 with b3 | b3
        · rw [this] at b3; cases b3
        · omega
      · omega
    obtain ⟨d, rfl⟩ := Nat.exists_eq_add_of_le hij
    have g := gr_nth (start c) inpl i d
    refine ⟨a2, fun _ => hi, by simp only; omega, by simp only; have := g.read; omega, g.out, .inl (by simp)⟩
end Go.Proofs.YtjbiefneffiogaaGreat

namespace Go.Proofs.YtjbiefneffiogaaGreat
open Go Am
def c15 : RC :=
 .seq (.reg [⟨some 2, .box (.t 0), none, [0]⟩,
 ⟨some 3, .box (.t 1), none, [1]⟩,
 ⟨some 4, .mv (.c (.bool false)), none, []⟩])
 (.seq (.reg [⟨some 5, .fa 0 (.t 2), none, [2]⟩,
 ⟨some 6, .ld1 (.t 5), none, [5]⟩,
 ⟨some 7, .fa 0 (.t 3), none, [3]⟩,
 ⟨some 8, .ld1 (.t 7), none, [7]⟩,
 ⟨some 9, .bin (.int .eql) (.t 6) (.t 8), none, [6, 8]⟩,
 ⟨some 10, .mv (.t 9), none, [9]⟩,
 ⟨some 11, .fa 1 (.t 2), (some (10, true)), [2, 10]⟩,
 ⟨some 12, .ld1 (.t 11), (some (10, true)), [11, 10]⟩,
 ⟨some 13, .fa 1 (.t 3), (some (10, true)), [3, 10]⟩,
 ⟨some 14, .ld1 (.t 13), (some (10, true)), [13, 10]⟩,
 ⟨some 15, .bin (.int .eql) (.t 12) (.t 14), (some (10, true)), [12, 14, 10]⟩,
 ⟨some 16, .pick (.t 10) (.t 15) (.c (.bool false)), none, [10, 15]⟩,
 ⟨some 17, .mv (.t 16), none, [16]⟩,
 ⟨some 18, .fa 2 (.t 2), (some (17, true)), [2, 17]⟩,
 ⟨some 19, .ld1 (.t 18), (some (17, true)), [18, 17]⟩,
 ⟨some 20, .fa 2 (.t 3), (some (17, true)), [3, 17]⟩,
 ⟨some 21, .ld1 (.t 20), (some (17, true)), [20, 17]⟩,
 ⟨some 22, .bin (.int .eql) (.t 19) (.t 21), (some (17, true)), [19, 21, 17]⟩,
 ⟨some 23, .pick (.t 17) (.t 22) (.c (.bool false)), none, [17, 22]⟩,
 ⟨some 24, .mv (.t 23), none, [23]⟩,
 ⟨some 25, .fa 3 (.t 2), (some (24, true)), [2, 24]⟩,
 ⟨some 26, .ld1 (.t 25), (some (24, true)), [25, 24]⟩,
 ⟨some 27, .fa 3 (.t 3), (some (24, true)), [3, 24]⟩,
 ⟨some 28, .ld1 (.t 27), (some (24, true)), [27, 24]⟩,
 ⟨some 29, .bin (.int .eql) (.t 26) (.t 28), (some (24, true)), [26, 28, 24]⟩,
 ⟨some 30, .pick (.t 24) (.t 29) (.c (.bool false)), none, [24, 29]⟩,
 ⟨some 31, .mv (.t 30), none, [30]⟩,
 ⟨some 32, .fa 4 (.t 2), (some (31, true)), [2, 31]⟩,
 ⟨some 33, .ld1 (.t 32), (some (31, true)), [32, 31]⟩,
 ⟨some 34, .fa 4 (.t 3), (some (31, true)), [3, 31]⟩,
 ⟨some 35, .ld1 (.t 34), (some (31, true)), [34, 31]⟩,
 ⟨some 36, .call 17 [(.t 33), (.t 35)], (some (31, true)), [33, 35, 31]⟩,
 ⟨some 37, .pick (.t 31) (.t 36) (.c (.bool false)), none, [31, 36]⟩,
 ⟨some 4, .mv (.t 37), none, [37]⟩])
 (.ret))
theorem c15_ctr : CtrOf 15 38 [.t 4] c15 := ctrOf Tryz.func15 (by kernel_rfl) (by kernel_rfl) rfl (by kernel_rfl) (by kernel_rfl)
def c17 : RC :=
 .seq (.reg [⟨some 4, .mv (.c (.bool false)), none, []⟩])
 (.seq (.reg [⟨some 5, .mv (.t 0), none, [0]⟩,
 ⟨some 6, .cv .str (.t 5), none, [5]⟩,
 ⟨some 7, .mv (.t 1), none, [1]⟩,
 ⟨some 8, .cv .str (.t 7), none, [7]⟩,
 ⟨some 9, .bin (.str .eql) (.t 6) (.t 8), none, [6, 8]⟩,
 ⟨some 4, .mv (.t 9), none, [9]⟩])
 (.ret))
theorem c17_ctr : CtrOf 17 10 [.t 4] c17 := ctrOf Tryz.func17 (by kernel_rfl) (by kernel_rfl) rfl (by kernel_rfl) (by kernel_rfl)
def c38 : RC :=
 .seq (.reg [⟨some 4, .mv (.c (.bool false)), none, []⟩])
 (.seq (.reg [⟨some 5, .mv (.t 0), none, [0]⟩,
 ⟨some 6, .len .slice (.t 5), none, [5]⟩,
 ⟨some 7, .mv (.t 1), none, [1]⟩,
 ⟨some 8, .len .slice (.t 7), none, [7]⟩,
 ⟨some 9, .bin (.int .geq) (.t 6) (.t 8), none, [6, 8]⟩,
 ⟨some 10, .mv (.t 9), none, [9]⟩,
 ⟨some 11, .mv (.t 0), (some (10, true)), [0, 10]⟩,
 ⟨some 12, .mv (.t 1), (some (10, true)), [1, 10]⟩,
 ⟨some 13, .len .slice (.t 12), (some (10, true)), [12, 10]⟩,
 ⟨some 14, .sl 1 (.t 11) none (some (.t 13)) none, (some (10, true)), [11, 13, 10]⟩,
 ⟨some 15, .mv (.t 1), (some (10, true)), [1, 10]⟩,
 ⟨some 16, .call 17 [(.t 14), (.t 15)], (some (10, true)), [14, 15, 10]⟩,
 ⟨some 17, .pick (.t 10) (.t 16) (.c (.bool false)), none, [10, 16]⟩,
 ⟨some 4, .mv (.t 17), none, [17]⟩])
 (.ret))
theorem c38_ctr : CtrOf 38 18 [.t 4] c38 := ctrOf Tryz.func38 (by kernel_rfl) (by kernel_rfl) rfl (by kernel_rfl) (by kernel_rfl)
end Go.Proofs.YtjbiefneffiogaaGreat

namespace Go.Proofs.YtjbiefneffiogaaGreat
open Go Am
end Go.Proofs.YtjbiefneffiogaaGreat

namespace Go.Proofs.YtjbiefneffiogaaGreat
open Go Am
theorem quo_100 {P : Program} {n : Nat} (h : n ≤ 4611686018427387904) : (BK.int .quo).run P (.int .i64 (n : Int)) (.int .i64 100) = some (.int .i64 ((n / 100 : Nat) : Int)) := by
  simp only [BK.run, intC, intD, V.onInt]
  rw [show (eqKind .i64 .i64 && !Int.eqB 100 0) = true from rfl, cond_true]
  rw [show (n : Int).tdiv 100 = ((n / 100 : Nat) : Int) from by rw [Int.tdiv_eq_ediv_of_nonneg (by omega)]; rfl, wrap_i64 (by omega) (by omega)]
theorem atW_le {m : Nat} : ∀ (a : List At), (∀ q ∈ a, q.s.length ≤ m) → atW a ≤ a.length * (m / 100)
  | [], _ => by simp [atW]
  | q :: a, h => by
    have h1 := atW_le a fun p hp => h p (by simp [hp])
    have h2 := Nat.div_le_div_right (c := 100) (h q (by simp))
    simp only [atW, List.length_cons, Nat.add_mul]
    omega
def own (c : Co) : Nat := 1 + c.a.length + c.t.length + c.s.length / 100 + atW c.a
theorem wt_own (c : Co) : wt c = own c + wts c.l := by cases c; rfl
theorem own_le {c : Co} (hf : fit 1048576 c) : own c ≤ 20000000000 := by
  obtain ⟨k, x, n, s, a, t, l⟩ := c
  obtain ⟨h1, h2, h3, h4, h5, h6⟩ := hf
  have h7 := atW_le a h5
  have h8 : a.length * (1048576 / 100) ≤ 1048576 * (1048576 / 100) := Nat.mul_le_mul_right _ h2
  simp only [own, Co.a, Co.t, Co.s]
  omega
set_option maxHeartbeats 1000000 in
theorem cores_ctr : ∀ (N : Nat) (c : Co), size c ≤ N → fit 1048576 c → ∀ (vs : List V) (h : Heap), CoIn h c vs → ∀ (m : Nat), m ≤ 1000 →
    Ctr Tryz.prog 39 [.agg vs, .int .i64 m] h fun x h' => (∃ n : Nat, x = .int .i64 n ∧ n ≤ m + 20000000000 ∧ (wt c ≤ m → n = wt c) ∧ (m < wt c → m < n)) ∧ Ext h h'
  | 0, c, hs, _, _, _, _, _, _ => by have := size_pos c; omega
  | N + 1, c, hs, hf, vs, h, H, m, hm => by
    obtain ⟨f1, f2, f3, f4, f5⟩ := hf.kids
    have hsl := size_l c
    have how := own_le hf
    have hwo := wt_own c
    have hfa : ∀ q ∈ c.a, q.s.length ≤ 1048576 := by cases c; exact hf.2.2.2.2.1
    obtain ⟨va, vt, vl, rfl, Ha, Ht, Hl⟩ := H.open
    refine c39_ctr rfl (wpK_of ?_)
    unfold c39
    have e0 : Ext h (h.new (.ofL [.int .i64 c.k, .int .i64 c.x, .int .i64 c.n, .str c.s, va, vt, vl] 0 false)) := (Ext.refl h).new _
    have cb : (h.new (.ofL [.int .i64 c.k, .int .i64 c.x, .int .i64 c.n, .str c.s, va, vt, vl] 0 false)).get (pa h.next) = .ofL [.int .i64 c.k, .int .i64 c.x, .int .i64 c.n, .str c.s, va, vt, vl] 0 false := get_new_self _
    have la := (Ha.ext e0).len
    have lt := (Ht.ext e0).len
    have ll := (Hl.ext e0).len
    have w1 : IntKind.i64.wrap (1 + (c.a.length : Int)) = ((1 + c.a.length : Nat) : Int) := by rw [wrap_i64 (by omega) (by omega)]; push_cast; rfl
    have w2 := wrap_add (a := 1 + c.a.length) (b := c.t.length) (by omega)
    have w3 := wrap_add (a := 1 + c.a.length + c.t.length) (b := c.s.length / 100) (by omega)
    have q1 := quo_100 (P := Tryz.prog) (n := c.s.length) (by omega)
    have n1 : h.next < (h.new (.ofL [.int .i64 c.k, .int .i64 c.x, .int .i64 c.n, .str c.s, va, vt, vl] 0 false)).next := by rw [next_new]; omega
    simp +contextual only [la, lt, ll, w1, w2, w3, q1, ↓wA, wC, Ex.ends, evR, oneOf, top, ↓reduceIte, Nat.reduceEqDiff, Nat.reduceLeDiff, Nat.reduceAdd, Nat.reduceSub, Nat.reduceMul, reduceCtorEq, Int.reduceEq, Int.reduceLT, Int.reduceLE, Int.reduceNeg]
    generalize h.new (.ofL [.int .i64 c.k, .int .i64 c.x, .int .i64 c.n, .str c.s, va, vt, vl] 0 false) = H0 at *
    refine loopK_intro (fun r h' => h' = H0 ∧ r 1 = .int .i64 m ∧ r 2 = .ptr (pa h.next) 0 ∧ ∃ (i n : Nat), r 6 = .int .i64 i ∧ i ≤ c.a.length ∧ r 5 = .int .i64 n ∧ n + atW (c.a.drop i) = own c) (fun r h' => c.a.length - (r 6).toN) ?_ ?_
    · exact ⟨rfl, by simp only [↓wA, wC, ↓reduceIte, Nat.reduceEqDiff, reduceCtorEq], by simp only [↓wA, wC, ↓reduceIte, Nat.reduceEqDiff, reduceCtorEq], 0, 1 + c.a.length + c.t.length + c.s.length / 100, by simp only [↓wA, wC, ↓reduceIte, Nat.reduceEqDiff, reduceCtorEq] <;> rfl, by omega, by simp only [↓wA, wC, ↓reduceIte, Nat.reduceEqDiff, reduceCtorEq], by rw [List.drop_zero]; rfl⟩
    · rintro r h' ⟨rfl, r1, r2, i, n, r6, hi, r5, hn⟩
      unfold c39l1
      by_cases hlt : i < c.a.length
      · have g0 : ((i : Int) < (c.a.length : Int)) = True := eq_true (by omega)
        obtain ⟨b, o, ia, ldn, ld⟩ := ats_at (Ha.ext e0) (k := .i64) hlt
        have l2 := ld 2 (by omega)
        have wi := w_inc hlt (by omega)
        rw [List.drop_eq_getElem_cons hlt, atW] at hn
        have hqs := hfa _ (List.getElem_mem hlt)
        generalize c.a[i] = q at *
        rw [show q.enc[2]? = some (.str q.s) from rfl] at l2
        have q2 := quo_100 (P := Tryz.prog) (n := q.s.length) (by omega)
        have w4 := wrap_add (a := n) (b := q.s.length / 100) (by omega)
        simp +contextual only [r1, r2, r5, r6, cb, la, g0, ia, l2, q2, w4, wi, ↓wA, wC, Ex.ends, evR, oneOf, top, ↓reduceIte, Nat.reduceEqDiff, Nat.reduceLeDiff, Nat.reduceAdd, Nat.reduceSub, Nat.reduceMul, reduceCtorEq, Int.reduceEq, Int.reduceLT, Int.reduceLE, Int.reduceNeg]
        exact ⟨⟨i + 1, n + q.s.length / 100, rfl, hlt, rfl, by omega⟩, by omega⟩
      · have g0 : ((i : Int) < (c.a.length : Int)) = False := eq_false (by omega)
        rw [List.drop_eq_nil_of_le (by omega), atW] at hn
        obtain rfl : n = own c := by omega
        simp +contextual only [r1, r2, r5, r6, cb, la, g0, ↓wA, wC, Ex.ends, evR, oneOf, top, ↓reduceIte, Nat.reduceEqDiff, Nat.reduceLeDiff, Nat.reduceAdd, Nat.reduceSub, Nat.reduceMul, reduceCtorEq, Int.reduceEq, Int.reduceLT, Int.reduceLE, Int.reduceNeg]
        refine loopK_intro (fun r h2 => Ext h' h2 ∧ r 1 = .int .i64 m ∧ r 2 = .ptr (pa h.next) 0 ∧ ∃ (i n : Nat), r 7 = .int .i64 i ∧ i ≤ c.l.length ∧ r 5 = .int .i64 n ∧ n ≤ m + 20000000000 ∧ (wt c ≤ m → n + wts (c.l.drop i) = wt c) ∧ (m < wt c → m < n + wts (c.l.drop i))) (fun r h' => c.l.length - (r 7).toN) ?_ ?_
        · exact ⟨Ext.refl _, by simp only [r1, ↓wA, wC, ↓reduceIte, Nat.reduceEqDiff, reduceCtorEq], by simp only [r2, ↓wA, wC, ↓reduceIte, Nat.reduceEqDiff, reduceCtorEq], 0, own c, by simp only [↓wA, wC, ↓reduceIte, Nat.reduceEqDiff, reduceCtorEq] <;> rfl, by omega, by simp only [r5, ↓wA, wC, ↓reduceIte, Nat.reduceEqDiff, reduceCtorEq], by omega, fun _ => by rw [List.drop_zero]; omega, fun _ => by rw [List.drop_zero]; omega⟩
        · clear r1 r2 r5 r6
          rintro r h2 ⟨hx, r1, r2, i, n, r7, hi, r5, hnm, hn1, hn2⟩
          unfold c39l2
          have bx : h2.get (pa h.next) = .ofL [.int .i64 c.k, .int .i64 c.x, .int .i64 c.n, .str c.s, va, vt, vl] 0 false := by rw [hx.get _ (old_lt n1)]; exact cb
          by_cases hlt : i < c.l.length
          · have g0 : ((i : Int) < (c.l.length : Int)) = True := eq_true (by omega)
            by_cases hle : n ≤ m
            · have g1 : ((n : Int) ≤ (m : Int)) = True := eq_true (by omega)
              obtain ⟨b, o, u, ia, hu, lds⟩ := Hl.atx (k := .i64) hlt
              have ld := (lds h2 (e0.trans hx)).1
              have hfi : c.l[i]? = some c.l[i] := List.getElem?_eq_getElem hlt
              have hsz := size_idx hfi
              have wi := w_inc hlt (by omega)
              have ws : IntKind.i64.wrap ((m : Int) - (n : Int)) = ((m - n : Nat) : Int) := by rw [wrap_i64 (by omega) (by omega)]; omega
              rw [List.drop_eq_getElem_cons hlt, wts] at hn1 hn2
              simp +contextual only [r1, r2, r5, r7, bx, ll, g0, g1, ia, ld, ws, ↓wA, wC, Ex.ends, evR, oneOf, top, ↓reduceIte, Nat.reduceEqDiff, Nat.reduceLeDiff, Nat.reduceAdd, Nat.reduceSub, Nat.reduceMul, reduceCtorEq, Int.reduceEq, Int.reduceLT, Int.reduceLE, Int.reduceNeg]
              refine callK_intro (cores_ctr N c.l[i] (by omega) (fits_at f5 hfi) u h2 (hu.ext (e0.trans hx)) (m - n) (by omega)) ?_
              rintro x h3 ⟨⟨n', rfl, p1, p2, p3⟩, e3⟩
              have w4 := wrap_add (a := n) (b := n') (by omega)
              simp +contextual only [r1, r2, r5, r7, w4, wi, ↓wA, wC, Ex.ends, evR, oneOf, top, ↓reduceIte, Nat.reduceEqDiff, Nat.reduceLeDiff, Nat.reduceAdd, Nat.reduceSub, Nat.reduceMul, reduceCtorEq, Int.reduceEq, Int.reduceLT, Int.reduceLE, Int.reduceNeg]
              refine ⟨⟨hx.trans e3, i + 1, n + n', rfl, hlt, rfl, by omega, fun q => ?_, fun q => ?_⟩, by omega⟩
              · have := hn1 q
                have := p2 (by omega)
                omega
              · have := hn2 q
                by_cases hc : wt c.l[i] ≤ m - n
                · have := p2 hc; omega
                · have := p3 (by omega); omega
            · have g1 : ((n : Int) ≤ (m : Int)) = False := eq_false (by omega)
              simp +contextual only [r1, r2, r5, r7, bx, ll, g0, g1, ↓wA, wC, Ex.ends, evR, oneOf, top, ↓reduceIte, Nat.reduceEqDiff, Nat.reduceLeDiff, Nat.reduceAdd, Nat.reduceSub, Nat.reduceMul, reduceCtorEq, Int.reduceEq, Int.reduceLT, Int.reduceLE, Int.reduceNeg]
              exact ⟨⟨n, rfl, hnm, fun q => by have := hn1 q; omega, fun q => by omega⟩, e0.trans hx⟩
          · have g0 : ((i : Int) < (c.l.length : Int)) = False := eq_false (by omega)
            rw [List.drop_eq_nil_of_le (by omega), wts] at hn1 hn2
            simp +contextual only [r1, r2, r5, r7, bx, ll, g0, ↓wA, wC, Ex.ends, evR, oneOf, top, ↓reduceIte, Nat.reduceEqDiff, Nat.reduceLeDiff, Nat.reduceAdd, Nat.reduceSub, Nat.reduceMul, reduceCtorEq, Int.reduceEq, Int.reduceLT, Int.reduceLE, Int.reduceNeg]
            exact ⟨⟨n, rfl, hnm, fun q => by have := hn1 q; omega, fun q => by have := hn2 q; omega⟩, e0.trans hx⟩
theorem large_ctr (c : Co) (hf : fit 1048576 c) (vs : List V) (h : Heap) (H : CoIn h c vs) : Ctr Tryz.prog 10 [.agg vs, .int .i64 400] h fun x h' => x = .bool (decide (400 < wt c)) ∧ Ext h h' := by
  obtain ⟨va, vt, vl, rfl, Ha, Ht, Hl⟩ := H.open
  refine c10_ctr rfl (wpK_of ?_)
  unfold c10
  have e0 : Ext h (h.new (.ofL [.int .i64 c.k, .int .i64 c.x, .int .i64 c.n, .str c.s, va, vt, vl] 0 false)) := (Ext.refl h).new _
  simp +contextual only [↓wA, wC, Ex.ends, evR, oneOf, top, ↓reduceIte, Nat.reduceEqDiff, Nat.reduceLeDiff, Nat.reduceAdd, Nat.reduceSub, Nat.reduceMul, reduceCtorEq, Int.reduceEq, Int.reduceLT, Int.reduceLE, Int.reduceNeg]
  refine callK_intro (cores_ctr (size c) c (Nat.le_refl _) hf _ _ (H.ext e0) 400 (by omega)) ?_
  rintro x h1 ⟨⟨n, rfl, p1, p2, p3⟩, e1⟩
  by_cases hw : 400 < wt c
  · have hn := p3 hw
    have g : ((400 : Int) < (n : Int)) = True := eq_true (by omega)
    have g' := eq_true hw
    simp +contextual only [g, g', ↓wA, wC, Ex.ends, evR, oneOf, top, ↓reduceIte, Nat.reduceEqDiff, Nat.reduceLeDiff, Nat.reduceAdd, Nat.reduceSub, Nat.reduceMul, reduceCtorEq, Int.reduceEq, Int.reduceLT, Int.reduceLE, Int.reduceNeg]
    exact e0.trans e1
  · have hn := p2 (by omega)
    have g : ((400 : Int) < (n : Int)) = False := eq_false (by omega)
    have g' := eq_false hw
    simp +contextual only [g, g', ↓wA, wC, Ex.ends, evR, oneOf, top, ↓reduceIte, Nat.reduceEqDiff, Nat.reduceLeDiff, Nat.reduceAdd, Nat.reduceSub, Nat.reduceMul, reduceCtorEq, Int.reduceEq, Int.reduceLT, Int.reduceLE, Int.reduceNeg]
    exact e0.trans e1
end Go.Proofs.YtjbiefneffiogaaGreat

namespace Go.Proofs.YtjbiefneffiogaaGreat
open Go Am
inductive CoF (F : Pa → Prop) (h : Heap) : Co → List V → Prop
  | mk {k x n : Int} {s : List UInt8} {a : List At} {t : List Int} {l : List Co} {va vt vl : V} {us : List (List V)} (ha : SlV h 3 va a.length (atsV a)) (ht : SlV h 1 vt t.length (intsV t))
    (hr : roomV vl) (hl : SlV h 7 vl l.length us.flatten) (hu : us.length = l.length) (kids : ∀ (i : Nat) (c : Co) (u : List V), l[i]? = some c → us[i]? = some u → CoF F h c u)
    (fa : ∀ b, va.blk b → F b) (ft : ∀ b, vt.blk b → F b) (fl : ∀ b, vl.blk b → F b) :
    CoF F h (.mk k x n s a t l) [.int .i64 k, .int .i64 x, .int .i64 n, .str s, va, vt, vl]
end Go.Proofs.YtjbiefneffiogaaGreat

namespace Go.Proofs.YtjbiefneffiogaaGreat
open Go Am
theorem sum_len : ∀ {ms : List Nat}, (∀ (i k : Nat), ms[i]? = some k → 1 ≤ k) → ms.length ≤ ms.sum
  | [], _ => Nat.le_refl _
  | m :: ms, h => by
    have h0 := h 0 m rfl
    have := sum_len (ms := ms) fun i k q => h (i + 1) k (by simpa using q)
    simp only [List.length_cons, List.sum_cons]
    omega
theorem sum_at : ∀ {ms : List Nat} {i k : Nat}, ms[i]? = some k → k ≤ ms.sum
  | [], _, _, h => by simp at h
  | m :: ms, 0, k, h => by simp only [List.getElem?_cons_zero, Option.some.injEq] at h; subst h; simp only [List.sum_cons]; omega
  | m :: ms, i + 1, k, h => by
    have := sum_at (ms := ms) (i := i) (k := k) (by simpa using h)
    simp only [List.sum_cons]; omega
theorem cells41 : Tryz.prog.cellsOf 41 = 3 := by kernel_rfl
theorem cells26 : Tryz.prog.cellsOf 26 = 7 := by kernel_rfl
theorem cells22 : Tryz.prog.cellsOf 22 = 1 := by kernel_rfl
theorem cells23 : Tryz.prog.cellsOf 23 = 1 := by kernel_rfl
theorem cells24 : Tryz.prog.cellsOf 24 = 1 := by kernel_rfl
theorem cells3 : Tryz.prog.cellsOf 3 = 1 := by kernel_rfl
theorem cells9 : Tryz.prog.cellsOf 9 = 1 := by kernel_rfl
theorem atsV_flat : ∀ l : List At, l.flatMap At.enc = atsV l
  | [] => rfl
  | a :: l => by rw [List.flatMap_cons, atsV_flat l]; rfl
theorem intsV_flat : ∀ l : List Int, l.flatMap (fun i => [V.int .i64 i]) = intsV l
  | [] => rfl
  | a :: l => by rw [List.flatMap_cons, intsV_flat l]; rfl
set_option maxRecDepth 10000 in
theorem open_at {h : Heap} {n m : Nat} {vs : List V} (H : Shp Tryz.prog h n m 41 vs) : ∃ a : At, vs = a.enc ∧ a.s.length ≤ m := by
  obtain ⟨n', rfl, hl, ms, h1, h2, h3⟩ := H.struct Tryz.underlying41
  rw [cells41] at hl
  match vs, hl with
  | [v0, v1, v2], _ =>
    have h1' : ms.length = 3 := h1
    clear h1
    match ms, h1' with
    | [m0, m1, m2], _ =>
      have f0 := (h3 0 _ _ rfl rfl).2
      have f1 := (h3 1 _ _ rfl rfl).2
      have f2 := (h3 2 _ _ rfl rfl).2
      simp only [cells3, cells9] at f0 f1 f2
      obtain ⟨i0, e0, _⟩ := f0.int Tryz.underlying3
      obtain ⟨i1, e1, _⟩ := f1.int Tryz.underlying3
      obtain ⟨s, e2, hs⟩ := f2.str Tryz.underlying9
      simp only [List.drop_zero, List.drop_succ_cons, List.take_succ_cons, List.take_zero, List.cons.injEq, and_true] at e0 e1 e2
      subst e0 e1 e2
      simp only [List.sum_cons, List.sum_nil] at h2
      exact ⟨⟨i0, i1, s⟩, rfl, by simp only; omega⟩
theorem open_ats {h : Heap} {n m : Nat} {v : V} {len : Nat} (H : Sld h 3 v len m (fun k => Shp Tryz.prog h n k 41)) : ∃ a : List At, SlV h 3 v a.length (atsV a) ∧ a.length ≤ m ∧ ∀ q ∈ a, q.s.length ≤ m := by
  obtain ⟨_, _, _, _, _, us, ms, h1, h2, h3, h4⟩ := H
  have hsum := sum_len fun i k q => (h4 i k q).1
  obtain ⟨bs, g1, g2, g3⟩ := collect At.enc 3 (fun a => a.s.length ≤ m) len us h1.1 (fun i hi => by
    obtain ⟨k, hk⟩ : ∃ k, ms[i]? = some k := ⟨_, List.getElem?_eq_getElem (by omega)⟩
    obtain ⟨a, e, q⟩ := open_at (h4 i k hk).2
    have := sum_at hk
    exact ⟨a, e, by omega⟩)
  subst g1
  rw [g2, atsV_flat] at h1
  exact ⟨bs, h1, by omega, g3⟩
theorem open_ints {h : Heap} {n m : Nat} {v : V} {len : Nat} (H : Sld h 1 v len m (fun k => Shp Tryz.prog h n k 3)) : ∃ a : List Int, SlV h 1 v a.length (intsV a) ∧ a.length ≤ m := by
  obtain ⟨_, _, _, _, _, us, ms, h1, h2, h3, h4⟩ := H
  have hsum := sum_len fun i k q => (h4 i k q).1
  obtain ⟨bs, g1, g2, g3⟩ := collect (fun i => [V.int .i64 i]) 1 (fun _ => True) len us h1.1 (fun i hi => by
    obtain ⟨k, hk⟩ : ∃ k, ms[i]? = some k := ⟨_, List.getElem?_eq_getElem (by omega)⟩
    obtain ⟨a, e, q⟩ := (h4 i k hk).2.int Tryz.underlying3
    exact ⟨a, e, trivial⟩)
  subst g1
  rw [g2, intsV_flat] at h1
  exact ⟨bs, h1, by omega⟩
theorem fits_of_all {m : Nat} : ∀ {l : List Co}, (∀ c ∈ l, fit m c) → fits m l
  | [], _ => trivial
  | c :: cs, h => ⟨h c (by simp), fits_of_all fun d hd => h d (by simp [hd])⟩
theorem fit.up {m m' : Nat} (h : m ≤ m') : ∀ c : Co, fit m c → fit m' c := by
  have both : ∀ N, (∀ c : Co, size c ≤ N → fit m c → fit m' c) := by
    intro N
    induction N with
    | zero => intro c hs; have := size_pos c; omega
    | succ N ih =>
      rintro ⟨k, x, n, s, a, t, l⟩ hs ⟨h1, h2, h3, h4, h5, h6⟩
      refine ⟨by omega, by omega, by omega, by omega, fun q hq => Nat.le_trans (h5 q hq) h, fits_of_all fun d hd => ?_⟩
      obtain ⟨i, hi⟩ := List.getElem?_of_mem hd
      refine ih d ?_ (fits_at h6 hi)
      have := size_mem hd
      simp only [size] at hs
      omega
  exact fun c => both (size c) c (Nat.le_refl _)
set_option maxRecDepth 10000 in
theorem open_core : ∀ (n : Nat) {m : Nat} {h : Heap} {vs : List V}, Shp Tryz.prog h n m 26 vs → ∃ c, CoIn h c vs ∧ fit m c
  | 0, m, h, vs, H => H.elim
  | n + 1, m, h, vs, H => by
    obtain ⟨n', e, hl, ms, h1, h2, h3⟩ := H.struct Tryz.underlying26
    obtain rfl : n = n' := by omega
    rw [cells26] at hl
    match vs, hl with
    | [v0, v1, v2, v3, v4, v5, v6], _ =>
      have h1' : ms.length = 7 := h1
      clear h1
      match ms, h1' with
      | [m0, m1, m2, m3, m4, m5, m6], _ =>
        have f0 := (h3 0 _ _ rfl rfl).2
        have f1 := (h3 1 _ _ rfl rfl).2
        have f2 := (h3 2 _ _ rfl rfl).2
        have f3 := (h3 3 _ _ rfl rfl).2
        have f4 := (h3 4 _ _ rfl rfl).2
        have f5 := (h3 5 _ _ rfl rfl).2
        have f6 := (h3 6 _ _ rfl rfl).2
        simp only [cells3, cells9, cells22, cells23, cells24] at f0 f1 f2 f3 f4 f5 f6
        obtain ⟨i0, e0, _⟩ := f0.int Tryz.underlying3
        obtain ⟨i1, e1, _⟩ := f1.int Tryz.underlying3
        obtain ⟨i2, e2, _⟩ := f2.int Tryz.underlying3
        obtain ⟨s, e3, hs⟩ := f3.str Tryz.underlying9
        obtain ⟨n4, w4, l4, r4, e4, S4⟩ := f4.slice Tryz.underlying22 (by rw [cells41]; decide)
        obtain ⟨n5, w5, l5, r5, e5, S5⟩ := f5.slice Tryz.underlying23 (by rw [cells3]; decide)
        obtain ⟨n6, w6, l6, r6, e6, S6⟩ := f6.slice Tryz.underlying24 (by rw [cells26]; decide)
        simp only [List.drop_zero, List.drop_succ_cons, List.take_succ_cons, List.take_zero, List.cons.injEq, and_true] at e0 e1 e2 e3 e4 e5 e6
        subst e0 e1 e2 e3 e4 e5 e6
        simp only [List.sum_cons, List.sum_nil] at h2
        rw [cells41] at S4
        rw [cells3] at S5
        rw [cells26] at S6
        obtain ⟨a, Ha, ha1, ha2⟩ := open_ats S4
        obtain ⟨t, Ht, ht1⟩ := open_ints S5
        obtain ⟨_, _, _, _, hr, us, ks, k1, k2, k3, k4⟩ := S6
        have hsum := sum_len fun i k q => (k4 i k q).1
        obtain ⟨ps, g1, g2, g3⟩ := collect (α := Co × List V) Prod.snd 7 (fun p => CoIn h p.1 p.2 ∧ fit m p.1) l6 us k1.1 (fun i hi => by
          obtain ⟨k, hk⟩ : ∃ k, ks[i]? = some k := ⟨_, List.getElem?_eq_getElem (by omega)⟩
          have hsh := (k4 i k hk).2
          obtain rfl : n = n6 + 1 := r6
          obtain ⟨c, hc1, hc2⟩ := open_core n6 hsh
          have := sum_at hk
          exact ⟨(c, _), rfl, hc1, fit.up (by omega) c hc2⟩)
        refine ⟨.mk i0 i1 i2 s a t (ps.map Prod.fst), .mk Ha Ht hr (us := ps.map Prod.snd) ?_ (by simp) ?_, ⟨by omega, by omega, by omega, by rw [List.length_map]; omega, fun q hq => by have := ha2 q hq; omega, fits_of_all ?_⟩⟩
        · rw [List.length_map, g1, ← List.flatMap_def, ← g2]
          exact k1
        · intro i c u q1 q2
          rw [List.getElem?_map] at q1 q2
          cases hp : ps[i]? with
          | none => rw [hp] at q1; cases q1
          | some p =>
            rw [hp] at q1 q2
            simp only [Option.map_some, Option.some.injEq] at q1 q2
            subst q1 q2
            exact (g3 p (List.mem_of_getElem? hp)).1
        · intro c hc
          obtain ⟨p, hp, rfl⟩ := List.mem_map.1 hc
          exact (g3 p hp).2
end Go.Proofs.YtjbiefneffiogaaGreat

namespace Go.Proofs.YtjbiefneffiogaaGreat
open Go Am
theorem same_bytes_ctr {h : Heap} {v w : V} {n m : Nat} {a b : List UInt8} (Ha : SlV h 1 v n (bytesV a)) (Hb : SlV h 1 w m (bytesV b)) : Ctr Tryz.prog 17 [v, w] h fun x h' => x = .bool (decide (a = b)) ∧ h' = h := by
  refine c17_ctr rfl (wpK_of ?_)
  unfold c17
  simp +contextual only [convStr_v Ha, convStr_v Hb, s_eql, ↓wA, wC, Ex.ends, evR, oneOf, top, ↓reduceIte, Nat.reduceEqDiff, Nat.reduceLeDiff, Nat.reduceAdd, Nat.reduceSub, Nat.reduceMul, reduceCtorEq, Int.reduceEq, Int.reduceLT, Int.reduceLE, Int.reduceNeg]
theorem LifeR.open {B : Nat} {h : Heap} {l : Li} {x : V} (H : LifeR B h l x) : ∃ vo, x = .agg [.int .i64 l.en, .int .i64 l.exn, .int .i64 l.read, .int .i64 l.steps, vo] ∧ SlO B h 1 vo l.out.length (bytesV l.out) ∧ vo.one = true ∧ vo.cells = [vo] ∧ vo.good = true := by
  obtain ⟨vo, q1, q2⟩ := H
  exact ⟨vo, q1, q2, q2.v.one⟩
deriving instance DecidableEq for Li
theorem refused_life (B : Nat) (h : Heap) : LifeR B h ⟨5, 0, 0, 0, []⟩ (.agg [.int .i64 5, .int .i64 0, .int .i64 0, .int .i64 0, .nilslice]) := ⟨.nilslice, rfl, rfl, rfl⟩
set_option maxHeartbeats 1000000 in
theorem same_life_ctr {h : Heap} {B B' : Nat} {l m : Li} {x y : V} (Hx : LifeR B h l x) (Hy : LifeR B' h m y) : Ctr Tryz.prog 15 [x, y] h fun z h' => z = .bool (decide (l = m)) ∧ Ext h h' := by
  obtain ⟨v, rfl, V, ov⟩ := Hx.open
  obtain ⟨w, rfl, W, ow⟩ := Hy.open
  obtain ⟨l1, l2, l3, l4, l5⟩ := l
  obtain ⟨m1, m2, m3, m4, m5⟩ := m
  simp only at V W
  refine c15_ctr rfl (wpK_of ?_)
  unfold c15
  have e0 : Ext h ((h.new (.ofL [.int .i64 l1, .int .i64 l2, .int .i64 l3, .int .i64 l4, v] 0 false)).new (.ofL [.int .i64 m1, .int .i64 m2, .int .i64 m3, .int .i64 m4, w] 0 false)) := ((Ext.refl h).new _).new _
  by_cases h1 : l1 = m1
  rotate_left
  · have h1' := eq_false h1
    simp +contextual only [ov.1, ov.2.1, ow.1, ow.2.1, h1', ↓wA, wC, Ex.ends, evR, oneOf, top, ↓reduceIte, Nat.reduceEqDiff, Nat.reduceLeDiff, Nat.reduceAdd, Nat.reduceSub, Nat.reduceMul, reduceCtorEq, Int.reduceEq, Int.reduceLT, Int.reduceLE, Int.reduceNeg]
    exact ⟨by simp [h1], e0⟩
  have h1' := eq_true h1
  by_cases h2 : l2 = m2
  rotate_left
  · have h2' := eq_false h2
    simp +contextual only [ov.1, ov.2.1, ow.1, ow.2.1, h1', h2', ↓wA, wC, Ex.ends, evR, oneOf, top, ↓reduceIte, Nat.reduceEqDiff, Nat.reduceLeDiff, Nat.reduceAdd, Nat.reduceSub, Nat.reduceMul, reduceCtorEq, Int.reduceEq, Int.reduceLT, Int.reduceLE, Int.reduceNeg]
    exact ⟨by simp [h2], e0⟩
  have h2' := eq_true h2
  by_cases h3 : l3 = m3
  rotate_left
  · have h3' := eq_false h3
    simp +contextual only [ov.1, ov.2.1, ow.1, ow.2.1, h1', h2', h3', ↓wA, wC, Ex.ends, evR, oneOf, top, ↓reduceIte, Nat.reduceEqDiff, Nat.reduceLeDiff, Nat.reduceAdd, Nat.reduceSub, Nat.reduceMul, reduceCtorEq, Int.reduceEq, Int.reduceLT, Int.reduceLE, Int.reduceNeg]
    exact ⟨by simp [h3], e0⟩
  have h3' := eq_true h3
  by_cases h4 : l4 = m4
  rotate_left
  · have h4' := eq_false h4
    simp +contextual only [ov.1, ov.2.1, ow.1, ow.2.1, h1', h2', h3', h4', ↓wA, wC, Ex.ends, evR, oneOf, top, ↓reduceIte, Nat.reduceEqDiff, Nat.reduceLeDiff, Nat.reduceAdd, Nat.reduceSub, Nat.reduceMul, reduceCtorEq, Int.reduceEq, Int.reduceLT, Int.reduceLE, Int.reduceNeg]
    exact ⟨by simp [h4], e0⟩
  have h4' := eq_true h4
  simp +contextual only [ov.1, ov.2.1, ow.1, ow.2.1, h1', h2', h3', h4', ↓wA, wC, Ex.ends, evR, oneOf, top, ↓reduceIte, Nat.reduceEqDiff, Nat.reduceLeDiff, Nat.reduceAdd, Nat.reduceSub, Nat.reduceMul, reduceCtorEq, Int.reduceEq, Int.reduceLT, Int.reduceLE, Int.reduceNeg]
  refine callK_intro (same_bytes_ctr (V.v.ext e0) (W.v.ext e0)) ?_
  rintro z h5 ⟨rfl, rfl⟩
  simp +contextual only [↓wA, wC, Ex.ends, evR, oneOf, top, ↓reduceIte, Nat.reduceEqDiff, Nat.reduceLeDiff, Nat.reduceAdd, Nat.reduceSub, Nat.reduceMul, reduceCtorEq, Int.reduceEq, Int.reduceLT, Int.reduceLE, Int.reduceNeg]
  refine ⟨?_, e0⟩
  congr 1
  simp [h1, h2, h3, h4]
theorem bytesV_take : ∀ (l : List UInt8) (n : Nat), bytesV (l.take n) = (bytesV l).take n
  | [], n => by simp [bytesV]
  | a :: l, 0 => by simp [bytesV]
  | a :: l, n + 1 => by simp [bytesV, bytesV_take l n]
theorem begins_ctr {h : Heap} {B B' : Nat} {v w : V} {a b : List UInt8} (Hb : SlO B h 1 v b.length (bytesV b)) (Ha : SlO B' h 1 w a.length (bytesV a)) (hp : a <+: b) : Ctr Tryz.prog 38 [v, w] h fun x h' => x = .bool true ∧ h' = h := by
  have hle := hp.length_le
  have hle' : ((a.length : Int) ≤ (b.length : Int)) = True := eq_true (by omega)
  obtain ⟨v', q1, q2, _⟩ := Hb.v.cut (k := .i64) (k' := .i64) (lo := 0) (hi := a.length) (Nat.zero_le _) hle none (some (.int .i64 a.length)) (.inr ⟨rfl, rfl⟩) (.inl rfl) (fun b off l c e => SlV.capOf Hb b off l c e)
  have hb : (((bytesV b).drop (0 * 1)).take ((a.length - 0) * 1)) = bytesV a := by
    rw [Nat.zero_mul, List.drop_zero, Nat.sub_zero, Nat.mul_one, ← bytesV_take]
    congr 1
    obtain ⟨t, rfl⟩ := hp
    simp
  rw [hb] at q2
  refine c38_ctr rfl (wpK_of ?_)
  unfold c38
  simp +contextual only [Hb.v.len, Ha.v.len, hle', q1, ↓wA, wC, Ex.ends, evR, oneOf, top, ↓reduceIte, Nat.reduceEqDiff, Nat.reduceLeDiff, Nat.reduceAdd, Nat.reduceSub, Nat.reduceMul, reduceCtorEq, Int.reduceEq, Int.reduceLT, Int.reduceLE, Int.reduceNeg]
  refine callK_intro (same_bytes_ctr q2 Ha.v) ?_
  rintro z h5 ⟨rfl, rfl⟩
  simp +contextual only [decide_true, ↓wA, wC, Ex.ends, evR, oneOf, top, ↓reduceIte, Nat.reduceEqDiff, Nat.reduceLeDiff, Nat.reduceAdd, Nat.reduceSub, Nat.reduceMul, reduceCtorEq, Int.reduceEq, Int.reduceLT, Int.reduceLE, Int.reduceNeg]
theorem cells5 : Tryz.prog.cellsOf 5 = 1 := by kernel_rfl
theorem bytes_flat : ∀ l : List UInt8, l.flatMap (fun i => [V.int .u8 i.toNat]) = bytesV l
  | [] => rfl
  | a :: l => by rw [List.flatMap_cons, bytes_flat l]; rfl
theorem open_bytes {h : Heap} {n m : Nat} {v : V} {len : Nat} (H : Sld h 1 v len m (fun k => Shp Tryz.prog h n k 5)) : ∃ a : List UInt8, SlV h 1 v a.length (bytesV a) ∧ a.length ≤ m := by
  obtain ⟨_, _, _, _, _, us, ms, h1, h2, h3, h4⟩ := H
  have hsum := sum_len fun i k q => (h4 i k q).1
  obtain ⟨bs, g1, g2, g3⟩ := collect (fun i : UInt8 => [V.int .u8 i.toNat]) 1 (fun _ => True) len us h1.1 (fun i hi => by
    obtain ⟨k, hk⟩ : ∃ k, ms[i]? = some k := ⟨_, List.getElem?_eq_getElem (by omega)⟩
    obtain ⟨a, e, q⟩ := (h4 i k hk).2.int Tryz.underlying5
    have hr : 0 ≤ a ∧ a ≤ 255 := by simpa [Lit.wf, IntKind.min, IntKind.max, IntKind.signed, IntKind.bits] using q
    refine ⟨UInt8.ofNat a.toNat, ?_, trivial⟩
    rw [e]
    simp only [UInt8.toNat_ofNat']
    congr 2
    omega)
  subst g1
  rw [g2, bytes_flat] at h1
  exact ⟨bs, h1, by omega⟩
end Go.Proofs.YtjbiefneffiogaaGreat

namespace Go.Proofs.YtjbiefneffiogaaGreat
open Go Am
def c3 : RC :=
 .seq (.reg [⟨some 3, .box (.t 0), none, [0]⟩,
 ⟨some 6, .mv (.c (.bool false)), none, []⟩])
 (.seq (.seq (.reg [⟨some 11, .ldn 7 (.t 3), none, [3]⟩,
 ⟨some 12, .call 10 [(.t 11), (.c (.int .i64 400))], none, [11]⟩,
 ⟨some 13, .mv (.t 12), none, [12]⟩,
 ⟨some 14, .mv (.t 1), (some (13, false)), [1, 13]⟩,
 ⟨some 15, .len .slice (.t 14), (some (13, false)), [14, 13]⟩,
 ⟨some 16, .bin (.int .gtr) (.t 15) (.c (.int .i64 100)), (some (13, false)), [15, 13]⟩,
 ⟨some 17, .pick (.t 13) (.c (.bool true)) (.t 16), none, [13, 16]⟩,
 ⟨some 18, .mv (.t 17), none, [17]⟩,
 ⟨some 19, .mv (.t 2), (some (18, false)), [2, 18]⟩,
 ⟨some 20, .bin (.int .gtr) (.t 19) (.c (.int .i64 2000)), (some (18, false)), [19, 18]⟩,
 ⟨some 21, .pick (.t 18) (.c (.bool true)) (.t 20), none, [18, 20]⟩])
 (.cond (.t 21)
 (.seq (.reg [⟨some 22, .call 11 [], none, []⟩,
 ⟨some 6, .mv (.t 22), none, [22]⟩])
 (.ret))
 (.skip)))
 (.seq (.reg [⟨some 23, .ldn 7 (.t 3), none, [3]⟩,
 ⟨some 24, .call 12 [(.t 23)], none, [23]⟩,
 ⟨some 25, .bsl 0 1 [(.int .u8 0)] [], none, []⟩,
 ⟨some 26, .mv (.t 1), none, [1]⟩,
 ⟨some 27, .app 1 (.t 25) (.t 26), none, [25, 26]⟩,
 ⟨some 7, .new [(.int .i64 0), (.int .i64 0), (.int .i64 0), (.str []), .nilslice, .nilslice, .nilslice], none, []⟩,
 ⟨none, .st 7 (.t 7) (.t 24), none, [7, 24]⟩,
 ⟨some 8, .mv (.t 27), none, [27]⟩])
 (.seq (.reg [⟨some 28, .ldn 7 (.t 7), none, [7]⟩,
 ⟨some 29, .mv (.t 8), none, [8]⟩,
 ⟨some 30, .mv (.t 2), none, [2]⟩,
 ⟨some 31, .call 13 [(.t 28), (.t 29), (.t 30)], none, [28, 29, 30]⟩,
 ⟨some 9, .new [(.int .i64 0), (.int .i64 0), (.int .i64 0), (.int .i64 0), .nilslice], none, []⟩,
 ⟨none, .st 5 (.t 9) (.t 31), none, [9, 31]⟩])
 (.seq (.reg [⟨some 32, .ldn 7 (.t 3), none, [3]⟩,
 ⟨some 33, .mv (.t 1), none, [1]⟩,
 ⟨some 34, .mv (.t 2), none, [2]⟩,
 ⟨some 35, .call 14 [(.t 32), (.t 33), (.t 34)], none, [32, 33, 34]⟩,
 ⟨some 10, .new [(.int .i64 0), (.int .i64 0), (.int .i64 0), (.int .i64 0), .nilslice], none, []⟩,
 ⟨none, .st 5 (.t 10) (.t 35), none, [10, 35]⟩])
 (.seq (.reg [⟨some 36, .ldn 5 (.t 9), none, [9]⟩,
 ⟨some 37, .ldn 5 (.t 10), none, [10]⟩,
 ⟨some 38, .call 15 [(.t 36), (.t 37)], none, [36, 37]⟩,
 ⟨some 39, .mv (.t 38), none, [38]⟩,
 ⟨some 40, .ldn 7 (.t 7), (some (39, true)), [7, 39]⟩,
 ⟨some 41, .ldn 7 (.t 3), (some (39, true)), [3, 39]⟩,
 ⟨some 42, .call 16 [(.t 40), (.t 41)], (some (39, true)), [40, 41, 39]⟩,
 ⟨some 43, .pick (.t 39) (.t 42) (.c (.bool false)), none, [39, 42]⟩,
 ⟨some 44, .mv (.t 43), none, [43]⟩,
 ⟨some 45, .mv (.t 8), (some (44, true)), [8, 44]⟩,
 ⟨some 46, .mv (.t 1), (some (44, true)), [1, 44]⟩,
 ⟨some 47, .call 17 [(.t 45), (.t 46)], (some (44, true)), [45, 46, 44]⟩,
 ⟨some 48, .pick (.t 44) (.t 47) (.c (.bool false)), none, [44, 47]⟩,
 ⟨some 49, .mv (.t 48), none, [48]⟩,
 ⟨some 50, .call 11 [], (some (49, true)), [49]⟩,
 ⟨some 51, .pick (.t 49) (.t 50) (.c (.bool false)), none, [49, 50]⟩,
 ⟨some 6, .mv (.t 51), none, [51]⟩])
 (.ret))))))
def c4 : RC :=
 .seq (.reg [⟨some 8, .mv (.c (.bool false)), none, []⟩])
 (.seq (.seq (.reg [⟨some 18, .mv (.t 1), none, [1]⟩,
 ⟨some 19, .bin (.int .lss) (.t 18) (.c (.int .i64 (-1073741824))), none, [18]⟩,
 ⟨some 20, .mv (.t 19), none, [19]⟩,
 ⟨some 21, .mv (.t 1), (some (20, false)), [1, 20]⟩,
 ⟨some 22, .bin (.int .gtr) (.t 21) (.c (.int .i64 1073741823)), (some (20, false)), [21, 20]⟩,
 ⟨some 23, .pick (.t 20) (.c (.bool true)) (.t 22), none, [20, 22]⟩,
 ⟨some 24, .mv (.t 23), none, [23]⟩,
 ⟨some 25, .mv (.t 2), (some (24, false)), [2, 24]⟩,
 ⟨some 26, .bin (.int .lss) (.t 25) (.c (.int .i64 (-1073741824))), (some (24, false)), [25, 24]⟩,
 ⟨some 27, .pick (.t 24) (.c (.bool true)) (.t 26), none, [24, 26]⟩,
 ⟨some 28, .mv (.t 27), none, [27]⟩,
 ⟨some 29, .mv (.t 2), (some (28, false)), [2, 28]⟩,
 ⟨some 30, .bin (.int .gtr) (.t 29) (.c (.int .i64 1073741823)), (some (28, false)), [29, 28]⟩,
 ⟨some 31, .pick (.t 28) (.c (.bool true)) (.t 30), none, [28, 30]⟩,
 ⟨some 32, .mv (.t 31), none, [31]⟩,
 ⟨some 33, .mv (.t 3), (some (32, false)), [3, 32]⟩,
 ⟨some 34, .len .str (.t 33), (some (32, false)), [33, 32]⟩,
 ⟨some 35, .bin (.int .gtr) (.t 34) (.c (.int .i64 4096)), (some (32, false)), [34, 32]⟩,
 ⟨some 36, .pick (.t 32) (.c (.bool true)) (.t 35), none, [32, 35]⟩])
 (.cond (.t 36)
 (.seq (.reg [⟨some 37, .call 11 [], none, []⟩,
 ⟨some 8, .mv (.t 37), none, [37]⟩])
 (.ret))
 (.skip)))
 (.seq (.reg [⟨some 38, .bsl 18 1 [(.str [])] [(0, 1, (.c (.str [97, 100, 100]))), (1, 1, (.c (.str [115, 117, 98]))), (2, 1, (.c (.str [109, 117, 108]))), (3, 1, (.c (.str [100, 105, 118]))), (4, 1, (.c (.str [109, 111, 100]))), (5, 1, (.c (.str [110, 101, 103]))), (6, 1, (.c (.str [101, 113]))), (7, 1, (.c (.str [108, 116]))), (8, 1, (.c (.str [108, 101]))), (9, 1, (.c (.str [99, 104, 114]))), (10, 1, (.c (.str [112, 117, 116, 99]))), (11, 1, (.c (.str [98, 121, 116, 101]))), (12, 1, (.c (.str [99, 117, 116]))), (13, 1, (.c (.str [106, 111, 105, 110]))), (14, 1, (.c (.str [115, 105, 122, 101]))), (15, 1, (.c (.str [112, 117, 116, 115]))), (16, 1, (.c (.str [115, 101, 116]))), (17, 1, (.c (.str [103, 101, 116, 99])))], none, []⟩,
 ⟨some 9, .mv (.t 38), none, [38]⟩])
 (.seq (.reg [⟨some 39, .mv (.t 9), none, [9]⟩,
 ⟨some 40, .mv (.t 0), none, [0]⟩,
 ⟨some 41, .mv (.t 9), none, [9]⟩,
 ⟨some 42, .len .slice (.t 41), none, [41]⟩,
 ⟨some 43, .call 18 [(.t 40), (.t 42)], none, [40, 42]⟩,
 ⟨some 44, .ia 1 (.t 39) (.t 43), none, [39, 43]⟩,
 ⟨some 45, .ld1 (.t 44), none, [44]⟩,
 ⟨some 10, .mv (.t 45), none, [45]⟩])
 (.seq (.reg [⟨some 46, .mv (.t 1), none, [1]⟩,
 ⟨some 47, .build [(.int .i64 0), (.int .i64 0), (.str [])] [(0, 1, (.c (.int .i64 2))), (1, 1, (.t 46))], none, [46]⟩,
 ⟨some 48, .mv (.t 2), none, [2]⟩,
 ⟨some 49, .build [(.int .i64 0), (.int .i64 0), (.str [])] [(0, 1, (.c (.int .i64 2))), (1, 1, (.t 48))], none, [48]⟩,
 ⟨some 50, .mv (.t 3), none, [3]⟩,
 ⟨some 51, .build [(.int .i64 0), (.int .i64 0), (.str [])] [(0, 1, (.c (.int .i64 3))), (2, 1, (.t 50))], none, [50]⟩,
 ⟨some 11, .new [(.int .i64 0), (.int .i64 0), (.str [])], none, []⟩,
 ⟨some 12, .new [(.int .i64 0), (.int .i64 0), (.str [])], none, []⟩,
 ⟨some 13, .new [(.int .i64 0), (.int .i64 0), (.str [])], none, []⟩,
 ⟨none, .st 3 (.t 11) (.t 47), none, [11, 47]⟩,
 ⟨none, .st 3 (.t 12) (.t 49), none, [12, 49]⟩,
 ⟨none, .st 3 (.t 13) (.t 51), none, [13, 51]⟩])
 (.seq (.reg [⟨some 52, .ldn 3 (.t 11), none, [11]⟩,
 ⟨some 53, .ldn 3 (.t 12), none, [12]⟩,
 ⟨some 54, .bsl 2 3 [(.int .i64 0), (.int .i64 0), (.str [])] [(0, 3, (.t 52)), (3, 3, (.t 53))], none, [52, 53]⟩,
 ⟨some 14, .mv (.t 54), none, [54]⟩])
 (.seq (.seq (.reg [⟨some 55, .mv (.t 10), none, [10]⟩])
 (.block 0 (.seq (.seq (.reg [⟨some 57, .bin (.str .eql) (.t 55) (.c (.str [110, 101, 103])), none, [55]⟩,
 ⟨some 56, .mv (.t 57), none, [57]⟩])
 (.cond (.t 56)
 (.skip)
 (.seq (.reg [⟨some 58, .bin (.str .eql) (.t 55) (.c (.str [99, 104, 114])), none, [55]⟩,
 ⟨some 56, .mv (.t 58), none, [58]⟩])
 (.cond (.t 56)
 (.skip)
 (.seq (.reg [⟨some 59, .bin (.str .eql) (.t 55) (.c (.str [112, 117, 116, 99])), none, [55]⟩,
 ⟨some 56, .mv (.t 59), none, [59]⟩])
 (.cond (.t 56)
 (.skip)
 (.reg [⟨some 60, .bin (.str .eql) (.t 55) (.c (.str [103, 101, 116, 99])), none, [55]⟩,
 ⟨some 56, .mv (.t 60), none, [60]⟩])))))))
 (.cond (.t 56)
 (.reg [⟨some 61, .ldn 3 (.t 11), none, [11]⟩,
 ⟨some 62, .bsl 1 3 [(.int .i64 0), (.int .i64 0), (.str [])] [(0, 3, (.t 61))], none, [61]⟩,
 ⟨some 14, .mv (.t 62), none, [62]⟩])
 (.seq (.reg [⟨some 64, .bin (.str .eql) (.t 55) (.c (.str [98, 121, 116, 101])), none, [55]⟩,
 ⟨some 63, .mv (.t 64), none, [64]⟩])
 (.cond (.t 63)
 (.reg [⟨some 65, .ldn 3 (.t 13), none, [13]⟩,
 ⟨some 66, .ldn 3 (.t 11), none, [11]⟩,
 ⟨some 67, .bsl 2 3 [(.int .i64 0), (.int .i64 0), (.str [])] [(0, 3, (.t 65)), (3, 3, (.t 66))], none, [65, 66]⟩,
 ⟨some 14, .mv (.t 67), none, [67]⟩])
 (.seq (.reg [⟨some 69, .bin (.str .eql) (.t 55) (.c (.str [99, 117, 116])), none, [55]⟩,
 ⟨some 68, .mv (.t 69), none, [69]⟩])
 (.cond (.t 68)
 (.reg [⟨some 70, .ldn 3 (.t 13), none, [13]⟩,
 ⟨some 71, .ldn 3 (.t 11), none, [11]⟩,
 ⟨some 72, .ldn 3 (.t 12), none, [12]⟩,
 ⟨some 73, .bsl 3 3 [(.int .i64 0), (.int .i64 0), (.str [])] [(0, 3, (.t 70)), (3, 3, (.t 71)), (6, 3, (.t 72))], none, [70, 71, 72]⟩,
 ⟨some 14, .mv (.t 73), none, [73]⟩])
 (.seq (.reg [⟨some 75, .bin (.str .eql) (.t 55) (.c (.str [106, 111, 105, 110])), none, [55]⟩,
 ⟨some 74, .mv (.t 75), none, [75]⟩])
 (.cond (.t 74)
 (.reg [⟨some 76, .ldn 3 (.t 13), none, [13]⟩,
 ⟨some 77, .ldn 3 (.t 13), none, [13]⟩,
 ⟨some 78, .bsl 2 3 [(.int .i64 0), (.int .i64 0), (.str [])] [(0, 3, (.t 76)), (3, 3, (.t 77))], none, [76, 77]⟩,
 ⟨some 14, .mv (.t 78), none, [78]⟩])
 (.seq (.seq (.reg [⟨some 80, .bin (.str .eql) (.t 55) (.c (.str [115, 105, 122, 101])), none, [55]⟩,
 ⟨some 79, .mv (.t 80), none, [80]⟩])
 (.cond (.t 79)
 (.skip)
 (.reg [⟨some 81, .bin (.str .eql) (.t 55) (.c (.str [112, 117, 116, 115])), none, [55]⟩,
 ⟨some 79, .mv (.t 81), none, [81]⟩])))
 (.cond (.t 79)
 (.reg [⟨some 82, .ldn 3 (.t 13), none, [13]⟩,
 ⟨some 83, .bsl 1 3 [(.int .i64 0), (.int .i64 0), (.str [])] [(0, 3, (.t 82))], none, [82]⟩,
 ⟨some 14, .mv (.t 83), none, [83]⟩])
 (.skip)))))))))))))
 (.seq (.reg [⟨some 84, .mv (.t 10), none, [10]⟩,
 ⟨some 85, .mv (.t 14), none, [14]⟩,
 ⟨some 86, .build [(.int .i64 0), (.int .i64 0), (.int .i64 0), (.str []), .nilslice, .nilslice, .nilslice] [(0, 1, (.c (.int .i64 3))), (3, 1, (.t 84)), (4, 1, (.t 85))], none, [84, 85]⟩,
 ⟨some 87, .call 19 [], none, []⟩,
 ⟨some 88, .bsl 2 7 [(.int .i64 0), (.int .i64 0), (.int .i64 0), (.str []), .nilslice, .nilslice, .nilslice] [(0, 7, (.t 86)), (7, 7, (.t 87))], none, [86, 87]⟩,
 ⟨some 89, .build [(.int .i64 0), (.int .i64 0), (.int .i64 0), (.str []), .nilslice, .nilslice, .nilslice] [(0, 1, (.c (.int .i64 2))), (1, 1, (.c (.int .i64 1))), (6, 1, (.t 88))], none, [88]⟩,
 ⟨some 15, .new [(.int .i64 0), (.int .i64 0), (.int .i64 0), (.str []), .nilslice, .nilslice, .nilslice], none, []⟩,
 ⟨none, .st 7 (.t 15) (.t 89), none, [15, 89]⟩])
 (.seq (.draw [⟨some 90, .ldn 7 (.t 15), none, [15]⟩,
 ⟨some 91, .bsl 1 1 [(.int .u8 0)] [(0, 1, (.c (.int .u8 7)))], none, []⟩,
 ⟨some 93, .ldn 7 (.t 15), none, [15]⟩,
 ⟨some 94, .bsl 1 1 [(.int .u8 0)] [(0, 1, (.c (.int .u8 7)))], none, []⟩,
 ⟨some 16, .new [(.int .i64 0), (.int .i64 0), (.int .i64 0), (.int .i64 0), .nilslice], none, []⟩,
 ⟨some 17, .new [(.int .i64 0), (.int .i64 0), (.int .i64 0), (.int .i64 0), .nilslice], none, []⟩,
 ⟨some 92, .call 13 [(.t 90), (.t 91), (.c (.int .i64 40))], none, [90, 91]⟩,
 ⟨some 95, .call 14 [(.t 93), (.t 94), (.c (.int .i64 40))], none, [93, 94]⟩,
 ⟨none, .st 5 (.t 16) (.t 92), none, [16, 92]⟩,
 ⟨none, .st 5 (.t 17) (.t 95), none, [17, 95]⟩] [(0, [6]), (2, [6, 7])])
 (.seq (.reg [⟨some 96, .ldn 5 (.t 16), none, [16]⟩,
 ⟨some 97, .ldn 5 (.t 17), none, [17]⟩,
 ⟨some 98, .call 15 [(.t 96), (.t 97)], none, [96, 97]⟩,
 ⟨some 99, .mv (.t 98), none, [98]⟩,
 ⟨some 100, .call 11 [], (some (99, true)), [99]⟩,
 ⟨some 101, .pick (.t 99) (.t 100) (.c (.bool false)), none, [99, 100]⟩,
 ⟨some 8, .mv (.t 101), none, [101]⟩])
 (.ret))))))))))
def c8 : RC :=
 .seq (.reg [⟨some 4, .box (.t 0), none, [0]⟩,
 ⟨some 8, .mv (.c (.bool false)), none, []⟩])
 (.seq (.reg [⟨some 12, .call 7 [], none, []⟩,
 ⟨some 9, .mv (.t 12), none, [12]⟩])
 (.seq (.seq (.reg [⟨some 13, .ldn 7 (.t 4), none, [4]⟩,
 ⟨some 14, .call 10 [(.t 13), (.c (.int .i64 400))], none, [13]⟩,
 ⟨some 15, .mv (.t 14), none, [14]⟩,
 ⟨some 16, .mv (.t 1), (some (15, false)), [1, 15]⟩,
 ⟨some 17, .len .slice (.t 16), (some (15, false)), [16, 15]⟩,
 ⟨some 18, .bin (.int .gtr) (.t 17) (.c (.int .i64 100)), (some (15, false)), [17, 15]⟩,
 ⟨some 19, .pick (.t 15) (.c (.bool true)) (.t 18), none, [15, 18]⟩,
 ⟨some 20, .mv (.t 19), none, [19]⟩,
 ⟨some 21, .mv (.t 2), (some (20, false)), [2, 20]⟩,
 ⟨some 22, .bin (.int .lss) (.t 21) (.c (.int .i64 0)), (some (20, false)), [21, 20]⟩,
 ⟨some 23, .pick (.t 20) (.c (.bool true)) (.t 22), none, [20, 22]⟩,
 ⟨some 24, .mv (.t 23), none, [23]⟩,
 ⟨some 25, .mv (.t 2), (some (24, false)), [2, 24]⟩,
 ⟨some 26, .bin (.int .gtr) (.t 25) (.c (.int .i64 1000)), (some (24, false)), [25, 24]⟩,
 ⟨some 27, .pick (.t 24) (.c (.bool true)) (.t 26), none, [24, 26]⟩,
 ⟨some 28, .mv (.t 27), none, [27]⟩,
 ⟨some 29, .mv (.t 3), (some (28, false)), [3, 28]⟩,
 ⟨some 30, .bin (.int .lss) (.t 29) (.c (.int .i64 0)), (some (28, false)), [29, 28]⟩,
 ⟨some 31, .pick (.t 28) (.c (.bool true)) (.t 30), none, [28, 30]⟩,
 ⟨some 32, .mv (.t 31), none, [31]⟩,
 ⟨some 33, .mv (.t 3), (some (32, false)), [3, 32]⟩,
 ⟨some 34, .bin (.int .gtr) (.t 33) (.c (.int .i64 1000)), (some (32, false)), [33, 32]⟩,
 ⟨some 35, .pick (.t 32) (.c (.bool true)) (.t 34), none, [32, 34]⟩])
 (.cond (.t 35)
 (.seq (.reg [⟨some 36, .mv (.t 9), none, [9]⟩,
 ⟨some 8, .mv (.t 36), none, [36]⟩])
 (.ret))
 (.skip)))
 (.seq (.reg [⟨some 37, .ldn 7 (.t 4), none, [4]⟩,
 ⟨some 38, .mv (.t 1), none, [1]⟩,
 ⟨some 39, .mv (.t 2), none, [2]⟩,
 ⟨some 40, .call 13 [(.t 37), (.t 38), (.t 39)], none, [37, 38, 39]⟩,
 ⟨some 10, .new [(.int .i64 0), (.int .i64 0), (.int .i64 0), (.int .i64 0), .nilslice], none, []⟩,
 ⟨none, .st 5 (.t 10) (.t 40), none, [10, 40]⟩])
 (.seq (.reg [⟨some 41, .ldn 7 (.t 4), none, [4]⟩,
 ⟨some 42, .mv (.t 1), none, [1]⟩,
 ⟨some 43, .mv (.t 2), none, [2]⟩,
 ⟨some 44, .mv (.t 3), none, [3]⟩,
 ⟨some 45, .bin (.int .add) (.t 43) (.t 44), none, [43, 44]⟩,
 ⟨some 46, .call 13 [(.t 41), (.t 42), (.t 45)], none, [41, 42, 45]⟩,
 ⟨some 11, .new [(.int .i64 0), (.int .i64 0), (.int .i64 0), (.int .i64 0), .nilslice], none, []⟩,
 ⟨none, .st 5 (.t 11) (.t 46), none, [11, 46]⟩])
 (.seq (.seq (.reg [⟨some 47, .ldn 7 (.t 4), none, [4]⟩,
 ⟨some 48, .call 20 [(.t 47)], none, [47]⟩,
 ⟨some 49, .bin (.int .neq) (.t 48) (.c (.int .i64 0)), none, [48]⟩])
 (.cond (.t 49)
 (.seq (.reg [⟨some 50, .mv (.t 9), none, [9]⟩,
 ⟨some 51, .mv (.t 50), none, [50]⟩,
 ⟨some 52, .ldn 5 (.t 10), (some (51, true)), [10, 51]⟩,
 ⟨some 53, .build [(.int .i64 0), (.int .i64 0), (.int .i64 0), (.int .i64 0), .nilslice] [(0, 1, (.c (.int .i64 5)))], (some (51, true)), [51]⟩,
 ⟨some 54, .call 15 [(.t 52), (.t 53)], (some (51, true)), [52, 53, 51]⟩,
 ⟨some 55, .pick (.t 51) (.t 54) (.c (.bool false)), none, [51, 54]⟩,
 ⟨some 56, .mv (.t 55), none, [55]⟩,
 ⟨some 57, .ldn 5 (.t 11), (some (56, true)), [11, 56]⟩,
 ⟨some 58, .ldn 5 (.t 10), (some (56, true)), [10, 56]⟩,
 ⟨some 59, .call 15 [(.t 57), (.t 58)], (some (56, true)), [57, 58, 56]⟩,
 ⟨some 60, .pick (.t 56) (.t 59) (.c (.bool false)), none, [56, 59]⟩,
 ⟨some 8, .mv (.t 60), none, [60]⟩])
 (.ret))
 (.skip)))
 (.seq (.seq (.reg [⟨some 61, .fa 3 (.t 10), none, [10]⟩,
 ⟨some 62, .ld1 (.t 61), none, [61]⟩,
 ⟨some 63, .mv (.t 2), none, [2]⟩,
 ⟨some 64, .bin (.int .gtr) (.t 62) (.t 63), none, [62, 63]⟩,
 ⟨some 65, .mv (.t 64), none, [64]⟩,
 ⟨some 66, .fa 0 (.t 10), (some (65, false)), [10, 65]⟩,
 ⟨some 67, .ld1 (.t 66), (some (65, false)), [66, 65]⟩,
 ⟨some 68, .bin (.int .eql) (.t 67) (.c (.int .i64 4)), (some (65, false)), [67, 65]⟩,
 ⟨some 69, .mv (.t 68), (some (65, false)), [68, 65]⟩,
 ⟨some 70, .fa 3 (.t 10), (some (69, true)), [10, 69]⟩,
 ⟨some 71, .ld1 (.t 70), (some (69, true)), [70, 69]⟩,
 ⟨some 72, .mv (.t 2), (some (69, true)), [2, 69]⟩,
 ⟨some 73, .bin (.int .neq) (.t 71) (.t 72), (some (69, true)), [71, 72, 69]⟩,
 ⟨some 74, .pick (.t 69) (.t 73) (.c (.bool false)), (some (65, false)), [69, 73, 65]⟩,
 ⟨some 75, .pick (.t 65) (.c (.bool true)) (.t 74), none, [65, 74]⟩,
 ⟨some 76, .mv (.t 75), none, [75]⟩,
 ⟨some 77, .fa 2 (.t 10), (some (76, false)), [10, 76]⟩,
 ⟨some 78, .ld1 (.t 77), (some (76, false)), [77, 76]⟩,
 ⟨some 79, .mv (.t 1), (some (76, false)), [1, 76]⟩,
 ⟨some 80, .len .slice (.t 79), (some (76, false)), [79, 76]⟩,
 ⟨some 81, .bin (.int .gtr) (.t 78) (.t 80), (some (76, false)), [78, 80, 76]⟩,
 ⟨some 82, .pick (.t 76) (.c (.bool true)) (.t 81), none, [76, 81]⟩,
 ⟨some 83, .mv (.t 82), none, [82]⟩,
 ⟨some 84, .fa 2 (.t 11), (some (83, false)), [11, 83]⟩,
 ⟨some 85, .ld1 (.t 84), (some (83, false)), [84, 83]⟩,
 ⟨some 86, .fa 2 (.t 10), (some (83, false)), [10, 83]⟩,
 ⟨some 87, .ld1 (.t 86), (some (83, false)), [86, 83]⟩,
 ⟨some 88, .bin (.int .lss) (.t 85) (.t 87), (some (83, false)), [85, 87, 83]⟩,
 ⟨some 89, .pick (.t 83) (.c (.bool true)) (.t 88), none, [83, 88]⟩,
 ⟨some 90, .mv (.t 89), none, [89]⟩,
 ⟨some 91, .fa 4 (.t 11), (some (90, false)), [11, 90]⟩,
 ⟨some 92, .ld1 (.t 91), (some (90, false)), [91, 90]⟩,
 ⟨some 93, .fa 4 (.t 10), (some (90, false)), [10, 90]⟩,
 ⟨some 94, .ld1 (.t 93), (some (90, false)), [93, 90]⟩,
 ⟨some 95, .call 38 [(.t 92), (.t 94)], (some (90, false)), [92, 94, 90]⟩,
 ⟨some 96, .un .not (.t 95), (some (90, false)), [95, 90]⟩,
 ⟨some 97, .pick (.t 90) (.c (.bool true)) (.t 96), none, [90, 96]⟩])
 (.cond (.t 97)
 (.seq (.reg [⟨some 8, .mv (.c (.bool false)), none, []⟩])
 (.ret))
 (.skip)))
 (.seq (.reg [⟨some 98, .mv (.t 9), none, [9]⟩,
 ⟨some 99, .mv (.t 98), none, [98]⟩,
 ⟨some 100, .fa 0 (.t 10), (some (99, true)), [10, 99]⟩,
 ⟨some 101, .ld1 (.t 100), (some (99, true)), [100, 99]⟩,
 ⟨some 102, .bin (.int .eql) (.t 101) (.c (.int .i64 4)), (some (99, true)), [101, 99]⟩,
 ⟨some 103, .mv (.t 102), (some (99, true)), [102, 99]⟩,
 ⟨some 104, .ldn 5 (.t 10), (some (103, false)), [10, 103]⟩,
 ⟨some 105, .ldn 5 (.t 11), (some (103, false)), [11, 103]⟩,
 ⟨some 106, .call 15 [(.t 104), (.t 105)], (some (103, false)), [104, 105, 103]⟩,
 ⟨some 107, .pick (.t 103) (.c (.bool true)) (.t 106), (some (99, true)), [103, 106, 99]⟩,
 ⟨some 108, .pick (.t 99) (.t 107) (.c (.bool false)), none, [99, 107]⟩,
 ⟨some 8, .mv (.t 108), none, [108]⟩])
 (.ret))))))))
theorem c8_ctr : CtrOf 8 109 [.t 8] c8 := ctrOf Tryz.func8 (by kernel_rfl) (by kernel_rfl) rfl (by kernel_rfl) (by kernel_rfl)
end Go.Proofs.YtjbiefneffiogaaGreat

namespace Go.Proofs.YtjbiefneffiogaaGreat
open Go Am
theorem known_run : Am.truly ctx 100000 7 [] = true := by kernel_rfl
theorem known_ctr (h : Heap) : Ctr Tryz.prog 7 [] h fun x h' => x = .bool true ∧ h' = h :=
  ⟨_, _, closed_callsV (fun E x hx => by simpa only [Rel] using hx) ⟨_, Tryz.func7, by kernel_rfl⟩ (fun w hw => truly_sound (C := ctx) follows namesOk hw primOk known_run) h, rfl, rfl⟩
end Go.Proofs.YtjbiefneffiogaaGreat

namespace Go.Proofs.YtjbiefneffiogaaGreat
open Go Am
theorem runs_check {c : Co} {inpl : List UInt8} {s : Int} {l : Li} (h : Runs c inpl s l) (hc : checkM c ≠ 0) : l = ⟨5, 0, 0, 0, []⟩ := by
  unfold Runs at h; rwa [if_pos (.inl hc)] at h
theorem runs_does {c : Co} {inpl : List UInt8} {s : Int} {l : Li} (h : Runs c inpl s l) (hc : checkM c = 0) (hs : 0 ≤ s) : Does c inpl s l := by
  unfold Runs at h; rwa [if_neg (by omega)] at h
set_option maxHeartbeats 4000000 in
theorem more_ctr (c : Co) (hf : fit 1048576 c) (vs : List V) (h : Heap) (H : CoIn h c vs) {inp : V} {inpl : List UInt8} (Hin : SlV h 1 inp inpl.length (bytesV inpl)) (hil : inpl.length ≤ 1048576) (steps more : Int) :
    Ctr Tryz.prog 8 [.agg vs, inp, .int .i64 steps, .int .i64 more] h fun x h' => x = .bool true := by
  obtain ⟨va, vt, vl, rfl, Ha, Ht, Hl⟩ := H.open
  have oa := Ha.one
  have ot := Ht.one
  have ol := Hl.one
  have hil' := Hin.len
  refine c8_ctr rfl (wpK_of ?_)
  unfold c8
  have e1 : Ext h (h.new (.ofL [.int .i64 c.k, .int .i64 c.x, .int .i64 c.n, .str c.s, va, vt, vl] 0 false)) := (Ext.refl h).new _
  have b1 : (h.new (.ofL [.int .i64 c.k, .int .i64 c.x, .int .i64 c.n, .str c.s, va, vt, vl] 0 false)).get (pa h.next) = .ofL [.int .i64 c.k, .int .i64 c.x, .int .i64 c.n, .str c.s, va, vt, vl] 0 false := get_new_self _
  have n1 : (h.new (.ofL [.int .i64 c.k, .int .i64 c.x, .int .i64 c.n, .str c.s, va, vt, vl] 0 false)).next = h.next + 1 := next_new _ _
  simp +contextual only [oa.1, oa.2.1, ot.1, ot.2.1, ol.1, ol.2.1, ↓wA, wC, Ex.ends, evR, oneOf, top, ↓reduceIte, Nat.reduceEqDiff, Nat.reduceLeDiff, Nat.reduceAdd, Nat.reduceSub, Nat.reduceMul, reduceCtorEq, Int.reduceEq, Int.reduceLT, Int.reduceLE, Int.reduceNeg]
  generalize h.new (.ofL [.int .i64 c.k, .int .i64 c.x, .int .i64 c.n, .str c.s, va, vt, vl] 0 false) = H1 at *
  refine callK_intro (known_ctr _) ?_
  rintro z h1 ⟨rfl, rfl⟩
  simp +contextual only [b1, ↓wA, wC, Ex.ends, evR, oneOf, top, ↓reduceIte, Nat.reduceEqDiff, Nat.reduceLeDiff, Nat.reduceAdd, Nat.reduceSub, Nat.reduceMul, reduceCtorEq, Int.reduceEq, Int.reduceLT, Int.reduceLE, Int.reduceNeg]
  refine callK_intro (large_ctr c hf _ _ (H.ext e1)) ?_
  rintro z h2 ⟨rfl, e2⟩
  have hn2 := e2.next
  have b2 : h2.get (pa h.next) = .ofL [.int .i64 c.k, .int .i64 c.x, .int .i64 c.n, .str c.s, va, vt, vl] 0 false := by rw [e2.get _ (old_lt (by omega))]; exact b1
  by_cases hw : 400 < wt c
  · have hw' := eq_true hw
    simp +contextual only [hw', decide_true, ↓wA, wC, Ex.ends, evR, oneOf, top, ↓reduceIte, Nat.reduceEqDiff, Nat.reduceLeDiff, Nat.reduceAdd, Nat.reduceSub, Nat.reduceMul, reduceCtorEq, Int.reduceEq, Int.reduceLT, Int.reduceLE, Int.reduceNeg]
  have hw' := decide_eq_false hw
  by_cases hi : 100 < (inpl.length : Int)
  · have hi' := eq_true hi
    simp +contextual only [hw', hil', hi', decide_true, ↓wA, wC, Ex.ends, evR, oneOf, top, ↓reduceIte, Nat.reduceEqDiff, Nat.reduceLeDiff, Nat.reduceAdd, Nat.reduceSub, Nat.reduceMul, reduceCtorEq, Int.reduceEq, Int.reduceLT, Int.reduceLE, Int.reduceNeg]
  have hi' := eq_false hi
  by_cases hs0 : steps < 0
  · have hs0' := eq_true hs0
    simp +contextual only [hw', hil', hi', hs0', decide_true, ↓wA, wC, Ex.ends, evR, oneOf, top, ↓reduceIte, Nat.reduceEqDiff, Nat.reduceLeDiff, Nat.reduceAdd, Nat.reduceSub, Nat.reduceMul, reduceCtorEq, Int.reduceEq, Int.reduceLT, Int.reduceLE, Int.reduceNeg]
  have hs0' := eq_false hs0
  by_cases hs1 : 1000 < steps
  · have hs1' := eq_true hs1
    simp +contextual only [hw', hil', hi', hs0', hs1', decide_true, ↓wA, wC, Ex.ends, evR, oneOf, top, ↓reduceIte, Nat.reduceEqDiff, Nat.reduceLeDiff, Nat.reduceAdd, Nat.reduceSub, Nat.reduceMul, reduceCtorEq, Int.reduceEq, Int.reduceLT, Int.reduceLE, Int.reduceNeg]
  have hs1' := eq_false hs1
  by_cases hm0 : more < 0
  · have hm0' := eq_true hm0
    simp +contextual only [hw', hil', hi', hs0', hs1', hm0', decide_true, ↓wA, wC, Ex.ends, evR, oneOf, top, ↓reduceIte, Nat.reduceEqDiff, Nat.reduceLeDiff, Nat.reduceAdd, Nat.reduceSub, Nat.reduceMul, reduceCtorEq, Int.reduceEq, Int.reduceLT, Int.reduceLE, Int.reduceNeg]
  have hm0' := eq_false hm0
  by_cases hm1 : 1000 < more
  · have hm1' := eq_true hm1
    simp +contextual only [hw', hil', hi', hs0', hs1', hm0', hm1', decide_true, ↓wA, wC, Ex.ends, evR, oneOf, top, ↓reduceIte, Nat.reduceEqDiff, Nat.reduceLeDiff, Nat.reduceAdd, Nat.reduceSub, Nat.reduceMul, reduceCtorEq, Int.reduceEq, Int.reduceLT, Int.reduceLE, Int.reduceNeg]
  have hm1' := eq_false hm1
  have hw400 : wt c ≤ 400 := by omega
  have E2 := e1.trans e2
  have wsm : IntKind.i64.wrap (steps + more) = steps + more := wrap_i64 (by omega) (by omega)
  simp +contextual only [hw', hil', hi', hs0', hs1', hm0', hm1', b2, decide_true, ↓wA, wC, Ex.ends, evR, oneOf, top, ↓reduceIte, Nat.reduceEqDiff, Nat.reduceLeDiff, Nat.reduceAdd, Nat.reduceSub, Nat.reduceMul, reduceCtorEq, Int.reduceEq, Int.reduceLT, Int.reduceLE, Int.reduceNeg]
  refine callK_intro (run_ctr c _ h2 (H.ext E2) hw400 (Hin.ext E2) (by omega) (steps := steps) (by omega)) ?_
  rintro x h3 ⟨l, hl, L, e3⟩
  have hn3 := e3.next
  obtain ⟨vo, rfl, V, ov⟩ := L.open
  have E3 := E2.trans e3
  have b3 : h3.get (pa h.next) = .ofL [.int .i64 c.k, .int .i64 c.x, .int .i64 c.n, .str c.s, va, vt, vl] 0 false := by rw [e3.get _ (old_lt (by omega))]; exact b2
  have nn3 : (h3.next = h.next) = False := eq_false (by omega)
  simp +contextual only [b3, ov.1, ov.2.1, nn3, wsm, ↓wA, wC, Ex.ends, evR, oneOf, top, ↓reduceIte, Nat.reduceEqDiff, Nat.reduceLeDiff, Nat.reduceAdd, Nat.reduceSub, Nat.reduceMul, reduceCtorEq, Int.reduceEq, Int.reduceLT, Int.reduceLE, Int.reduceNeg]
  have x4 : Ext h3 ((h3.new (.ofL [.int .i64 0, .int .i64 0, .int .i64 0, .int .i64 0, .nilslice] 0 false)).set (pa h3.next) (.ofL [.int .i64 l.en, .int .i64 l.exn, .int .i64 l.read, .int .i64 l.steps, vo] 0 false)) := ((Ext.refl h3).new _).set (Nat.le_refl _) _
  have p4 : ((h3.new (.ofL [.int .i64 0, .int .i64 0, .int .i64 0, .int .i64 0, .nilslice] 0 false)).set (pa h3.next) (.ofL [.int .i64 l.en, .int .i64 l.exn, .int .i64 l.read, .int .i64 l.steps, vo] 0 false)).get (pa h3.next) = .ofL [.int .i64 l.en, .int .i64 l.exn, .int .i64 l.read, .int .i64 l.steps, vo] 0 false := by rw [get_set, if_pos rfl]
  have n4 : ((h3.new (.ofL [.int .i64 0, .int .i64 0, .int .i64 0, .int .i64 0, .nilslice] 0 false)).set (pa h3.next) (.ofL [.int .i64 l.en, .int .i64 l.exn, .int .i64 l.read, .int .i64 l.steps, vo] 0 false)).next = h3.next + 1 := by rw [next_set, next_new]
  generalize ((h3.new (.ofL [.int .i64 0, .int .i64 0, .int .i64 0, .int .i64 0, .nilslice] 0 false)).set (pa h3.next) (.ofL [.int .i64 l.en, .int .i64 l.exn, .int .i64 l.read, .int .i64 l.steps, vo] 0 false)) = h4 at *
  have E4 := E3.trans x4
  refine callK_intro (run_ctr c _ h4 (H.ext E4) hw400 (Hin.ext E4) (by omega) (steps := steps + more) (by omega)) ?_
  rintro x h5 ⟨m, hm, Lm, e5⟩
  have hn5 := e5.next
  obtain ⟨wo, rfl, W, ow⟩ := Lm.open
  have E5 := E4.trans e5
  have b5 : h5.get (pa h.next) = .ofL [.int .i64 c.k, .int .i64 c.x, .int .i64 c.n, .str c.s, va, vt, vl] 0 false := by rw [e5.get _ (old_lt (by omega)), x4.get _ (old_lt (by omega))]; exact b3
  have p5 : h5.get (pa h3.next) = .ofL [.int .i64 l.en, .int .i64 l.exn, .int .i64 l.read, .int .i64 l.steps, vo] 0 false := by rw [e5.get _ (old_lt (by omega))]; exact p4
  have nn5 : (h5.next = h.next) = False := eq_false (by omega)
  have nm5 : (h5.next = h3.next) = False := eq_false (by omega)
  simp +contextual only [b5, p5, ow.1, ow.2.1, nn5, nm5, wsm, ↓wA, wC, Ex.ends, evR, oneOf, top, ↓reduceIte, Nat.reduceEqDiff, Nat.reduceLeDiff, Nat.reduceAdd, Nat.reduceSub, Nat.reduceMul, reduceCtorEq, Int.reduceEq, Int.reduceLT, Int.reduceLE, Int.reduceNeg]
  have x6 : Ext h5 ((h5.new (.ofL [.int .i64 0, .int .i64 0, .int .i64 0, .int .i64 0, .nilslice] 0 false)).set (pa h5.next) (.ofL [.int .i64 m.en, .int .i64 m.exn, .int .i64 m.read, .int .i64 m.steps, wo] 0 false)) := ((Ext.refl h5).new _).set (Nat.le_refl _) _
  have q6 : ((h5.new (.ofL [.int .i64 0, .int .i64 0, .int .i64 0, .int .i64 0, .nilslice] 0 false)).set (pa h5.next) (.ofL [.int .i64 m.en, .int .i64 m.exn, .int .i64 m.read, .int .i64 m.steps, wo] 0 false)).get (pa h5.next) = .ofL [.int .i64 m.en, .int .i64 m.exn, .int .i64 m.read, .int .i64 m.steps, wo] 0 false := by rw [get_set, if_pos rfl]
  have n6 : ((h5.new (.ofL [.int .i64 0, .int .i64 0, .int .i64 0, .int .i64 0, .nilslice] 0 false)).set (pa h5.next) (.ofL [.int .i64 m.en, .int .i64 m.exn, .int .i64 m.read, .int .i64 m.steps, wo] 0 false)).next = h5.next + 1 := by rw [next_set, next_new]
  generalize ((h5.new (.ofL [.int .i64 0, .int .i64 0, .int .i64 0, .int .i64 0, .nilslice] 0 false)).set (pa h5.next) (.ofL [.int .i64 m.en, .int .i64 m.exn, .int .i64 m.read, .int .i64 m.steps, wo] 0 false)) = h6 at *
  have E6 := E5.trans x6
  refine callK_intro (Check_ctr c _ h6 (H.ext E6) hw400) ?_
  rintro x h7 ⟨rfl, e7⟩
  have hn7 := e7.next
  have p7 : h7.get (pa h3.next) = .ofL [.int .i64 l.en, .int .i64 l.exn, .int .i64 l.read, .int .i64 l.steps, vo] 0 false := by rw [e7.get _ (old_lt (by omega)), x6.get _ (old_lt (by omega))]; exact p5
  have q7 : h7.get (pa h5.next) = .ofL [.int .i64 m.en, .int .i64 m.exn, .int .i64 m.read, .int .i64 m.steps, wo] 0 false := by rw [e7.get _ (old_lt (by omega))]; exact q6
  have V7 := V.ext (((x4.trans e5).trans x6).trans e7)
  have W7 := W.ext (x6.trans e7)
  have L7 : LifeR h2.next h7 l (.agg [.int .i64 l.en, .int .i64 l.exn, .int .i64 l.read, .int .i64 l.steps, vo]) := ⟨vo, rfl, V7⟩
  have M7 : LifeR h4.next h7 m (.agg [.int .i64 m.en, .int .i64 m.exn, .int .i64 m.read, .int .i64 m.steps, wo]) := ⟨wo, rfl, W7⟩
  by_cases hc : checkM c = 0
  rotate_left
  · have hc' := eq_false hc
    have hle := runs_check hl hc
    have hme := runs_check hm hc
    simp +contextual only [hc', p7, q7, ↓wA, wC, Ex.ends, evR, oneOf, top, ↓reduceIte, Nat.reduceEqDiff, Nat.reduceLeDiff, Nat.reduceAdd, Nat.reduceSub, Nat.reduceMul, reduceCtorEq, Int.reduceEq, Int.reduceLT, Int.reduceLE, Int.reduceNeg]
    refine callK_intro (same_life_ctr L7 (refused_life 0 h7)) ?_
    rintro z h8 ⟨rfl, e8⟩
    have d1 : decide (l = (⟨5, 0, 0, 0, []⟩ : Li)) = true := decide_eq_true hle
    have p8 : h8.get (pa h3.next) = .ofL [.int .i64 l.en, .int .i64 l.exn, .int .i64 l.read, .int .i64 l.steps, vo] 0 false := by rw [e8.get _ (old_lt (by omega))]; exact p7
    have q8 : h8.get (pa h5.next) = .ofL [.int .i64 m.en, .int .i64 m.exn, .int .i64 m.read, .int .i64 m.steps, wo] 0 false := by rw [e8.get _ (old_lt (by omega))]; exact q7
    simp +contextual only [d1, p8, q8, ↓wA, wC, Ex.ends, evR, oneOf, top, ↓reduceIte, Nat.reduceEqDiff, Nat.reduceLeDiff, Nat.reduceAdd, Nat.reduceSub, Nat.reduceMul, reduceCtorEq, Int.reduceEq, Int.reduceLT, Int.reduceLE, Int.reduceNeg]
    refine callK_intro (same_life_ctr (M7.ext e8) (L7.ext e8)) ?_
    rintro z h9 ⟨rfl, e9⟩
    have d2 : decide (m = l) = true := decide_eq_true (by rw [hle, hme])
    simp +contextual only [d2, ↓wA, wC, Ex.ends, evR, oneOf, top, ↓reduceIte, Nat.reduceEqDiff, Nat.reduceLeDiff, Nat.reduceAdd, Nat.reduceSub, Nat.reduceMul, reduceCtorEq, Int.reduceEq, Int.reduceLT, Int.reduceLE, Int.reduceNeg]
  have hc' := eq_true hc
  obtain ⟨k1, k2, k3, k4, k5, k6⟩ := more_law (wf_of_check (may_ref hw400) (fit_of_wt c hw400) hc) (by omega) (by omega) (runs_does hl hc (by omega)) (runs_does hm hc (by omega))
  have c1 : (steps < l.steps) = False := eq_false (by omega)
  have c3 : ((inpl.length : Int) < l.read) = False := eq_false (by omega)
  have c4 : (m.read < l.read) = False := eq_false (by omega)
  by_cases hr : l.en = 4
  · have hr' := eq_true hr
    have c2 : (l.steps = steps) = True := eq_true (k2 hr)
    simp +contextual only [hc', p7, q7, c1, c2, c3, c4, hr', hil', ↓wA, wC, Ex.ends, evR, oneOf, top, ↓reduceIte, Nat.reduceEqDiff, Nat.reduceLeDiff, Nat.reduceAdd, Nat.reduceSub, Nat.reduceMul, reduceCtorEq, Int.reduceEq, Int.reduceLT, Int.reduceLE, Int.reduceNeg]
    refine callK_intro (begins_ctr W7 V7 k5) ?_
    rintro z h8 ⟨rfl, rfl⟩
    simp +contextual only [hc', p7, q7, c1, c2, c3, c4, hr', hil', ↓wA, wC, Ex.ends, evR, oneOf, top, ↓reduceIte, Nat.reduceEqDiff, Nat.reduceLeDiff, Nat.reduceAdd, Nat.reduceSub, Nat.reduceMul, reduceCtorEq, Int.reduceEq, Int.reduceLT, Int.reduceLE, Int.reduceNeg]
  · have hr' := eq_false hr
    simp +contextual only [hc', p7, q7, c1, c3, c4, hr', hil', ↓wA, wC, Ex.ends, evR, oneOf, top, ↓reduceIte, Nat.reduceEqDiff, Nat.reduceLeDiff, Nat.reduceAdd, Nat.reduceSub, Nat.reduceMul, reduceCtorEq, Int.reduceEq, Int.reduceLT, Int.reduceLE, Int.reduceNeg]
    refine callK_intro (begins_ctr W7 V7 k5) ?_
    rintro z h8 ⟨rfl, rfl⟩
    simp +contextual only [hc', p7, q7, c1, c3, c4, hr', hil', ↓wA, wC, Ex.ends, evR, oneOf, top, ↓reduceIte, Nat.reduceEqDiff, Nat.reduceLeDiff, Nat.reduceAdd, Nat.reduceSub, Nat.reduceMul, reduceCtorEq, Int.reduceEq, Int.reduceLT, Int.reduceLE, Int.reduceNeg]
    refine callK_intro (same_life_ctr L7 M7) ?_
    rintro z h9 ⟨rfl, e9⟩
    have d2 : decide (l = m) = true := decide_eq_true (by rcases k6 with k | k; exact absurd k hr; exact k)
    simp +contextual only [d2, ↓wA, wC, Ex.ends, evR, oneOf, top, ↓reduceIte, Nat.reduceEqDiff, Nat.reduceLeDiff, Nat.reduceAdd, Nat.reduceSub, Nat.reduceMul, reduceCtorEq, Int.reduceEq, Int.reduceLT, Int.reduceLE, Int.reduceNeg]
end Go.Proofs.YtjbiefneffiogaaGreat

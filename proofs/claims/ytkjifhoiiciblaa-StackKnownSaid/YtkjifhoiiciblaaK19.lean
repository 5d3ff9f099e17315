/- The abstract machine, part K19 (a verified interpreter of the model's code: plain definitions and lemmas, no condition). -/
import Derived.Test.YtkjifhoiiciblaaK18
namespace Go.Proofs.Ytkjifhoiiciblaa.Am
open Go Go.RowKit

section
variable {P : Program}

/-! What a drawn region's run tells. -/
def regAt (es : List Ent) (rf : Regs) (i : Nat) : Regs :=
  match es[i]? with
  | some e => e.r
  | none => rf

theorem heapAt_succ (e : Ent) (es : List Ent) (hf : Heap) (i : Nat) : heapAt (e :: es) hf (i + 1) = heapAt es hf i := by simp [heapAt]
theorem regAt_succ (e : Ent) (es : List Ent) (rf : Regs) (i : Nat) : regAt (e :: es) rf (i + 1) = regAt es rf i := by simp [regAt]

theorem stepsD_spec {nt : Nat} {all : Array Oper} {call : CallF} : ∀ {l : List Oper} {r rf : Regs} {h hf : Heap} {es : List Ent}, (stepsD P nt all l).run call r h = .ok es rf hf →
    es.length = l.length ∧ heapAt es hf 0 = h ∧ regAt es rf 0 = r ∧ ∀ j o, l[j]? = some o → ∃ e, es[j]? = some e ∧ (dopC P nt all o).run call e.r e.h = .val e.v (heapAt es hf (j + 1)) ∧ regAt es rf (j + 1) = (putC o.dst).run e.r e.v
  | [], r, rf, h, hf, es, he => by
    simp only [stepsD, DR.ok.injEq] at he
    obtain ⟨rfl, rfl, rfl⟩ := he
    exact ⟨rfl, rfl, rfl, fun j o ho => by simp at ho⟩
  | o :: os, r, rf, h, hf, es, he => by
    simp only [stepsD, stepD] at he
    cases h1 : (dopC P nt all o).run call r h with
    | fail => rw [h1] at he; cases he
    | val v hh =>
      rw [h1] at he
      simp only at he
      cases h2 : (stepsD P nt all os).run call ((putC o.dst).run r v) hh with
      | fail => rw [h2] at he; cases he
      | ok es1 r1 h3 =>
        rw [h2] at he
        simp only [DR.ok.injEq] at he
        obtain ⟨rfl, rfl, rfl⟩ := he
        obtain ⟨q1, q2, q3, q4⟩ := stepsD_spec h2
        refine ⟨by simp [q1], by simp [heapAt], by simp [regAt], fun j o' ho => ?_⟩
        cases j with
        | zero =>
          simp only [List.getElem?_cons_zero, Option.some.injEq] at ho
          subst ho
          exact ⟨⟨r, h, v⟩, rfl, by rw [heapAt_succ, q2]; exact h1, by rw [regAt_succ, q3]⟩
        | succ j =>
          obtain ⟨e, p1, p2, p3⟩ := q4 j o' (by simpa using ho)
          exact ⟨e, by simpa using p1, by rw [heapAt_succ]; exact p2, by rw [regAt_succ]; exact p3⟩

theorem get_put_dst {nt : Nat} {d : Option Nat} (hd : dstFine nt d = true) {r : Regs} {v : V} {t : Nat} (ht : t ≤ top) : T.get .bad (pa t) ((putC d).run r v) = if d = some t then v else T.get .bad (pa t) r := by
  cases d with
  | none => simp [putC]
  | some d =>
    simp only [dstFine, Bool.and_eq_true, Nat.blt_eq, Nat.ble_eq] at hd
    simp only [putC, T.get_put, Option.some.injEq]
    by_cases h : d = t
    · subst h; simp
    · rw [if_neg (fun e => h (pa_inj hd.2 ht e)), if_neg h]

theorem dopC_fine {nt : Nat} {all : Array Oper} {o : Oper} {call : CallF} {r : Regs} {h h' : Heap} {v : V} (he : (dopC P nt all o).run call r h = .val v h') : dstFine nt o.dst = true ∧ smallT (readsOf all o) = true := by
  unfold dopC at he
  cases hc : (dstFine nt o.dst && smallT (readsOf all o)) with
  | false => rw [hc] at he; simp [OpC.none] at he
  | true => simpa using hc

theorem trimR_get {r : Regs} {rs : List Nat} (hs : smallT rs = true) {t : Nat} (ht : t ≤ top) : T.get .bad (pa t) (trimR r rs) = if t ∈ rs then T.get .bad (pa t) r else .bad := by
  induction rs with
  | nil => simp [trimR]
  | cons u rs ih =>
    simp only [smallT, List.all_cons, Bool.and_eq_true, Nat.ble_eq] at hs
    simp only [trimR, T.get_put, List.mem_cons]
    by_cases h : u = t
    · subst h; simp
    · rw [if_neg (fun e => h (pa_inj hs.1 ht e)), ih hs.2]
      have h' : ¬ t = u := fun e => h e.symm
      simp [h']

/-- one operation of a drawn region, wherever it stands -/
theorem dop_sound {w0 : World} {E : Env} {h h' : Heap} {w : World} {call : CallF} (hN : NamesOk P) (hcall : CallOk P w0 call) (hbody : CallBody P call) {all : Array Oper} {i : Nat} {o : Oper} (hi : all[i]? = some o) {nt : Nat} {r : Regs} {a : Act} {v : V}
    (he : (dopC P nt all o).run call r h = .val v h') (hsize : a.tmps.size = nt) (hdef : a.defers = []) (hreads : ∀ t ∈ readsOf all o, Rel E (T.get .bad (pa t) r) (a.tmps.getD t undef)) (s : Sim w0 E h w)
    {K : Act → World → Prop} {Q : Exit → Act → World → Prop} (hK : ∀ E' x w', E.le E' → Rel E' v x → Sim w0 E' h' w' → K (a.put o.dst x) w') : wpOp P all Q i K a w := by
  obtain ⟨hd, hs⟩ := dopC_fine he
  have k : RegRel E nt (trimR r (readsOf all o)) a := ⟨hsize, hdef, fun t ht => by
    rw [trimR_get hs ht]
    by_cases hm : t ∈ readsOf all o
    · rw [if_pos hm]; exact hreads t hm
    · rw [if_neg hm]; simp [Rel]⟩
  unfold dopC at he
  rw [show (dstFine nt o.dst && smallT (readsOf all o)) = true from by rw [hd, hs]; rfl] at he
  simp only [cond_true] at he
  have wanted : (cop P o).run call (trimR r (readsOf all o)) h = .val v h' → Region.wanted o (yielded all a.tmps) = true → wpOp P all Q i K a w := by
    intro h1 hw
    simp only [wpOp, hi, hw, if_true]
    left
    exact cop_sound hN hcall hbody h1 k s hK
  have unwanted : OR.val (.tuple []) h = OR.val v h' → Region.wanted o (yielded all a.tmps) = false → wpOp P all Q i K a w := by
    intro h1 hw
    simp only [OR.val.injEq] at h1
    obtain ⟨rfl, rfl⟩ := h1
    simp only [wpOp, hi, hw, Bool.false_eq_true, if_false]
    exact hK E undef w (Env.le.refl E) (by simp only [Rel]; exact ⟨#[], rfl, rfl⟩) s
  cases hg : o.guard with
  | none =>
    rw [hg] at he
    exact wanted he (by simp [Region.wanted, hg])
  | some jw =>
    obtain ⟨j, want⟩ := jw
    rw [hg] at he
    simp only at he
    cases hj : all[j]? with
    | none => rw [hj] at he; simp [OpC.none] at he
    | some g =>
      rw [hj] at he
      simp only at he
      cases hgd : g.dst with
      | none => rw [hgd] at he; simp [OpC.none] at he
      | some d =>
        rw [hgd] at he
        simp only at he
        cases hc : (Nat.blt d nt && Nat.ble d top) with
        | false => rw [hc] at he; simp [OpC.none] at he
        | true =>
          rw [hc] at he
          simp only [cond_true, dopRun, evTmp] at he
          simp only [Bool.and_eq_true, Nat.blt_eq, Nat.ble_eq] at hc
          obtain ⟨g1, g2⟩ := guard_sound k hj hgd hc.1 hc.2
          cases hv : T.get .bad (pa d) (trimR r (readsOf all o)) <;> rw [hv] at he <;> simp only at he <;> try (cases he; done)
          · rename_i b
            have hy := g1 b hv
            cases hb : (bif want then b else !b) with
            | true =>
              rw [hb] at he
              simp only [cond_true] at he
              refine wanted he ?_
              simp only [Region.wanted, hg, hy]
              cases want <;> cases b <;> simp_all
            | false =>
              rw [hb] at he
              simp only [cond_false] at he
              refine unwanted he ?_
              simp only [Region.wanted, hg, hy]
              cases want <;> cases b <;> simp_all
          · rename_i vs
            have hy := g2 vs hv
            refine unwanted he ?_
            simp only [Region.wanted, hg, hy]
            rfl

theorem dop_quiet {nt : Nat} {all : Array Oper} {o : Oper} {call : CallF} {r : Regs} {h h' : Heap} {v : V} (hq : isEff P o.op = false) (he : (dopC P nt all o).run call r h = .val v h') :
    h' = h ∧ (looks o.op = false → ∀ H, (dopC P nt all o).run call r H = .val v H) := by
  obtain ⟨hd, hs⟩ := dopC_fine he
  have e0 : (dstFine nt o.dst && smallT (readsOf all o)) = true := by rw [hd, hs]; rfl
  have key : dopC P nt all o = (match o.guard with
    | none => ⟨dopRun none (cop P o) (readsOf all o)⟩
    | some (j, want) => match all[j]? with
      | some g => match g.dst with
        | some d => bif Nat.blt d nt && Nat.ble d top then ⟨dopRun (some (evTmp (pa d), want)) (cop P o) (readsOf all o)⟩ else OpC.none
        | none => OpC.none
      | none => OpC.none) := by
    unfold dopC; rw [e0]; rfl
  rw [key] at he ⊢
  cases hg : o.guard with
  | none =>
    rw [hg] at he
    exact ⟨cop_quiet hq he, fun hl H => cop_pure hq hl he H⟩
  | some jw =>
    obtain ⟨j, want⟩ := jw
    rw [hg] at he
    simp only at he ⊢
    cases hj : all[j]? with
    | none => rw [hj] at he; simp [OpC.none] at he
    | some g =>
      rw [hj] at he
      simp only at he ⊢
      cases hgd : g.dst with
      | none => rw [hgd] at he; simp [OpC.none] at he
      | some d =>
        rw [hgd] at he
        simp only at he ⊢
        cases hc : (Nat.blt d nt && Nat.ble d top) with
        | false => rw [hc] at he; simp [OpC.none] at he
        | true =>
          rw [hc] at he
          simp only [cond_true, dopRun] at he ⊢
          cases hv : (evTmp (pa d)).run (trimR r (readsOf all o)) <;> rw [hv] at he <;> simp only at he ⊢ <;> try (cases he; done)
          · rename_i b
            cases hb : (bif want then b else !b) <;> rw [hb] at he <;> simp only [cond_true, cond_false] at he ⊢
            · simp only [OR.val.injEq] at he ⊢
              exact ⟨he.2.symm, fun _ H => ⟨he.1, trivial⟩⟩
            · exact ⟨cop_quiet hq he, fun hl H => cop_pure hq hl he H⟩
          · simp only [OR.val.injEq] at he ⊢
            exact ⟨he.2.symm, fun _ H => ⟨he.1, trivial⟩⟩

theorem askAgain_mem {op : OpC} {call : CallF} {es : List Ent} {hf : Heap} {r : Regs} {v : V} : ∀ {ss : List Nat}, askAgain op call es hf r v ss = true → ∀ s ∈ ss, ∃ h', op.run call r (heapAt es hf s) = .val v h'
  | [], _, s, h => by simp at h
  | s' :: ss, he, s, hm => by
    simp only [askAgain, Bool.and_eq_true] at he
    simp only [List.mem_cons] at hm
    rcases hm with rfl | hm
    · have h1 := he.1
      cases hr : op.run call r (heapAt es hf s) with
      | fail => rw [hr] at h1; cases h1
      | val v' h' =>
        rw [hr] at h1
        rw [eqV_eq h1]
        exact ⟨h', rfl⟩
    · exact askAgain_mem he.2 s hm

theorem asksC_spec {nt : Nat} {all : Array Oper} {masks starts : List Nat} {call : CallF} {es : List Ent} {hf : Heap} : ∀ {l : List Oper} {i : Nat}, (asksC P nt all masks starts i l).run call es hf = true →
    ∀ j o, l[j]? = some o → looks o.op = true → isEff P o.op = false → ∃ e, es[i + j]? = some e ∧ ∀ s ∈ starts, mayStand P masks all.toList (i + j) ((masks[i + j]?).getD 0) s = true → ∃ h', (dopC P nt all o).run call e.r (heapAt es hf s) = .val e.v h'
  | [], _, _, j, o, ho, _, _ => by simp at ho
  | o' :: os, i, he, j, o, ho, hl, hq => by
    simp only [asksC] at he
    cases j with
    | zero =>
      simp only [List.getElem?_cons_zero, Option.some.injEq] at ho
      subst ho
      rw [hl, hq] at he
      simp only [Bool.not_false, Bool.and_true, cond_true, Bool.and_eq_true, askOne] at he
      have h1 := he.1
      cases hes : es[i]? with
      | none => rw [hes] at h1; cases h1
      | some e =>
        rw [hes] at h1
        refine ⟨e, by simp, fun s hs hm => ?_⟩
        exact askAgain_mem h1 s (List.mem_filter.2 ⟨hs, by simpa using hm⟩)
    | succ j =>
      have rest : (asksC P nt all masks starts (i + 1) os).run call es hf = true := by
        cases hc : (looks o'.op && !isEff P o'.op) with
        | false => rw [hc] at he; exact he
        | true => rw [hc] at he; simp only [cond_true, Bool.and_eq_true] at he; exact he.2
      have := asksC_spec rest j o (by simpa using ho) hl hq
      rw [show i + (j + 1) = i + 1 + j from by omega]
      exact this

theorem levelStarts_mem : ∀ {l : List Oper} {i j : Nat} {o : Oper}, l[j]? = some o → isEff P o.op = true → i + j + 1 ∈ levelStarts P i l
  | [], _, j, o, h, _ => by simp at h
  | o' :: os, i, j, o, h, he => by
    simp only [levelStarts]
    cases j with
    | zero =>
      simp only [List.getElem?_cons_zero, Option.some.injEq] at h
      subst h
      rw [he]
      simp
    | succ j =>
      have := levelStarts_mem (i := i + 1) (by simpa using h) he
      rw [show i + (j + 1) + 1 = i + 1 + j + 1 from by omega]
      cases isEff P o'.op with
      | true => simp [this]
      | false => exact this
end
end Go.Proofs.Ytkjifhoiiciblaa.Am

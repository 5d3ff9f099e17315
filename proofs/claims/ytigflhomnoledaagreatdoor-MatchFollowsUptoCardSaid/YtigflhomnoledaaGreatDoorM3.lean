/- The abstract machine and its walks (a verified interpreter of the model's code: plain definitions and lemmas, no condition). -/
import Derived.Test.YtigflhomnoledaaGreatDoorM2
set_option linter.unusedSectionVars false
set_option linter.unusedSimpArgs false
set_option linter.unusedVariables false
namespace Go.Proofs.YtigflhomnoledaaGreatDoor.Am
variable [Lay]
open Go Go.RowKit
section
variable {P : Program}
theorem guard_sound {E : Env} {nt : Nat} {r : Regs} {a : Act} (k : RegRel0 E nt r a) {all : Array Oper} {j : Nat} {g : Oper} {d : Nat} (hj : all[j]? = some g) (hd : g.dst = some d) (hdn : d < nt) (hdt : d ≤ top) :
    (∀ b, T.get .bad (pa d) r = .bool b → yielded all a.tmps j = some b) ∧ (∀ vs, T.get .bad (pa d) r = .tuple vs → yielded all a.tmps j = none) := by
  have hr := k.reg d hdt
  have hlt : d < a.tmps.size := by rw [k.size]; exact hdn
  have he : a.tmps[d]? = some (a.tmps.getD d undef) := by simp [Array.getD_eq_getD_getElem?, hlt]
  refine ⟨fun b hb => ?_, fun vs hb => ?_⟩
  · rw [hb] at hr
    simp only [Rel] at hr
    simp only [yielded, hj, Option.bind, hd, he, hr]
  · rw [hb] at hr
    simp only [Rel] at hr
    obtain ⟨arr, hr, _⟩ := hr
    simp only [yielded, hj, Option.bind, hd, he, hr]
theorem cop_pan {rd : Option Nat} {w0 : Fr} {E : Env} {h h' : Heap} {w : World} {call : CallF} (hN : NamesOk P) (hcall : CallOk P call) {o : Oper} {nt : Nat} {r : Regs} {a : Act} {v : V} (hm : mayPan o.op = true)
    (he : (cop P o).run call r h = .pan v h') (k : RegRel0 E nt r a) (s : Sim w0 E h w) {K : Act → World → Prop} {Q : Exit → Act → World → Prop}
    (hQ : ∀ E' x w', E.le E' → Rel E' v x → Sim w0 E' h' w' → Q (.panic (panic1 x)) a w') : o.wpIn (Wd rd) 0 P a w K Q := by
  obtain ⟨dst, op, type, pos, after, guard⟩ := o
  cases op <;> simp only [mayPan] at hm <;> try (cases hm; done)
  all_goals simp only [cop] at he
  case panic x =>
    have hx := evC_sound k x
    generalize (evC x).run r = vx at he hx
    unfold panV at he
    cases vx <;> simp only at he <;> try (cases he; done)
    simp only [OR.pan.injEq] at he
    obtain ⟨rfl, rfl⟩ := he
    have hx0 := hx
    simp only [Rel] at hx
    obtain ⟨Y, hX, hY⟩ := hx
    refine ⟨fun _ _ => trivial, ?_⟩
    rw [semAt_wd (by intro c h; cases h)]
    have hex : (execOp a.eval ⟨dst, .panic x, type, pos, after, guard⟩).run P w = .halt (.panic (a.eval x)) w := by
      simp only [execOp, hX, Instr.panic, Sem.run_bind]
      rfl
    rw [hex]
    exact hQ E _ w (Env.le.refl E) hx0 s
  case call c =>
    obtain ⟨callee, args, types⟩ := c
    cases callee <;> simp only at hm <;> try (cases hm; done)
    rename_i f
    simp only [callC] at he
    have hf := evC_sound k f
    generalize hvf : (evC f).run r = vf at he hf
    cases vf <;> simp only [V.onFunc] at he <;> try (cases he; done)
    rotate_left
    · rename_i g cs
      simp only [Rel] at hf
      refine ⟨fun _ _ => trivial, ?_⟩
      rw [semAt_wd (by intro c h; cases h)]
      obtain ⟨hg, first, hX, hl⟩ := hf
      have hargs := RelL.append hl (evsC_sound k args.toList)
      obtain ⟨⟨fn, hfn, hb⟩, hc⟩ := hcall.pan _ _ _ _ _ _ hg he E w _ hargs s
      have hex : execOp a.eval ⟨dst, .call ⟨.value f, args, types⟩, type, pos, after, guard⟩ = callFunc g (first ++ args.map a.eval) := by
        simp only [execOp, resolve, hX, Deferred.ofValue, pure_bind, invoke]
        simp
      have e : first ++ args.map a.eval = (first.toList ++ args.toList.map a.eval).toArray := by
        apply Array.ext'; simp
      rw [hex, e, run_callFunc hN hfn hb]
      refine ⟨fun h => by simp at h, callsIn_wd.2 (hc.mono fun e w' hq => ?_)⟩
      obtain ⟨E', x, rfl, q1, q2, q3⟩ := hq
      exact hQ E' x w' q1 q2 q3
    rename_i g cs
    simp only [Rel] at hf
    refine ⟨fun _ _ => trivial, ?_⟩
    rw [semAt_wd (by intro c h; cases h)]
    rcases hf with ⟨hg, caps, hX, hl⟩ | ⟨hg, b, p, hcs, hp, hX⟩
    · have hargs := (evsC_sound k args.toList).append hl
      obtain ⟨⟨fn, hfn, hb⟩, hc⟩ := hcall.pan _ _ _ _ _ _ hg he E w _ hargs s
      have hex : execOp a.eval ⟨dst, .call ⟨.value f, args, types⟩, type, pos, after, guard⟩ = callFunc g (args.map a.eval ++ caps) := by
        simp only [execOp, resolve, hX, Deferred.ofValue, pure_bind, invoke]
        simp
      have e : args.map a.eval ++ caps = (args.toList.map a.eval ++ caps.toList).toArray := by
        apply Array.ext'; simp
      rw [hex, e, run_callFunc hN hfn hb]
      refine ⟨fun h => by simp at h, callsIn_wd.2 (hc.mono fun e w' hq => ?_)⟩
      obtain ⟨E', x, rfl, q1, q2, q3⟩ := hq
      exact hQ E' x w' q1 q2 q3
    · subst hg
      exact absurd he (hcall.yp _ _ _ _)
def PostR (w0 : Fr) (E : Env) (nt : Nat) (K : Act → World → Prop) (Q : Exit → Act → World → Prop) : RR → Prop
  | .ok r h => ∀ E' a' w', E.le E' → RegRel E' nt r a' → Sim w0 E' h w' → K a' w'
  | .pan v r h => ∀ E' a' w' x, E.le E' → RegRel E' nt r a' → Rel E' v x → Sim w0 E' h w' → Q (.panic (panic1 x)) a' w'
  | .fail => False
theorem PostR.up {w0 : Fr} {E E' : Env} (h : E.le E') {nt : Nat} {K : Act → World → Prop} {Q : Exit → Act → World → Prop} {x : RR} (k : PostR w0 E nt K Q x) : PostR w0 E' nt K Q x := by
  cases x with
  | ok r hh => exact fun E2 a w h2 => k E2 a w (h.trans h2)
  | pan v r hh => exact fun E2 a w x h2 => k E2 a w x (h.trans h2)
  | fail => exact k
theorem operRun_sound {rd : Option Nat} {w0 : Fr} {E : Env} {h : Heap} {w : World} {call : CallF} (hN : NamesOk P) (hcall : CallOk P call) (hbody : CallBody P call) {all : Array Oper} {i : Nat} {o : Oper} (hi : all[i]? = some o) {nt : Nat} {r : Regs} {a : Act}
    (hd : dstFine nt o.dst = true) (k : RegRel E nt r a) (s : Sim w0 E h w) {K : Act → World → Prop} {Q : Exit → Act → World → Prop} (hw : Region.wanted o (yielded all a.tmps) = true)
    (hp : PostR w0 E nt K Q (operRun (mayPan o.op) (cop P o) (putC o.dst) call r h)) : wpOpIn (Wd rd) 0 P all Q i K a w := by
  simp only [wpOpIn, hi, hw, if_true]
  unfold operRun at hp
  cases ho : (cop P o).run call r h with
  | fail => rw [ho] at hp; exact hp.elim
  | val v h1 =>
    rw [ho] at hp
    exact cop_sound hN hcall hbody ho k.toRegRel0 s fun E' x w' q1 q2 q3 => hp E' _ w' q1 ((k.mono q1).put hd q2) q3
  | pan v h1 =>
    rw [ho] at hp
    simp only at hp
    cases hm : mayPan o.op with
    | false => rw [hm] at hp; exact hp.elim
    | true =>
      rw [hm] at hp
      exact cop_pan hN hcall hm ho k.toRegRel0 s fun E' x w' q1 q2 q3 => hp E' a w' x q1 (k.mono q1) q2 q3
theorem unwanted_sound {rd : Option Nat} {w0 : Fr} {E : Env} {h : Heap} {w : World} {all : Array Oper} {i : Nat} {o : Oper} (hi : all[i]? = some o) {nt : Nat} {r : Regs} {a : Act}
    (hd : dstFine nt o.dst = true) (k : RegRel E nt r a) (s : Sim w0 E h w) {K : Act → World → Prop} {Q : Exit → Act → World → Prop} (hw : Region.wanted o (yielded all a.tmps) = false)
    (hp : PostR w0 E nt K Q (.ok ((putC o.dst).run r (.tuple [])) h)) : wpOpIn (Wd rd) 0 P all Q i K a w := by
  simp only [wpOpIn, hi, hw, Bool.false_eq_true, if_false]
  exact ⟨fun _ _ => trivial, hp E _ w (Env.le.refl E) (k.put hd (by simp only [Rel]; exact ⟨#[], rfl, rfl⟩)) s⟩
theorem operC0_sound {rd : Option Nat} {w0 : Fr} {E : Env} {h : Heap} {w : World} {call : CallF} (hN : NamesOk P) (hcall : CallOk P call) (hbody : CallBody P call) {all : Array Oper} {i : Nat} {o : Oper} (hi : all[i]? = some o) {nt : Nat} {r : Regs} {a : Act}
    (hd : dstFine nt o.dst = true) (k : RegRel E nt r a) (s : Sim w0 E h w) {K : Act → World → Prop} {Q : Exit → Act → World → Prop}
    (hp : PostR w0 E nt K Q ((operC0 P nt all o).run call r h)) : wpOpIn (Wd rd) 0 P all Q i K a w := by
  unfold operC0 at hp
  cases hg : o.guard with
  | none =>
    rw [hg] at hp
    exact operRun_sound hN hcall hbody hi hd k s (by simp [Region.wanted, hg]) hp
  | some jw =>
    obtain ⟨j, want⟩ := jw
    rw [hg] at hp
    simp only at hp
    cases hj : all[j]? with
    | none => rw [hj] at hp; exact hp.elim
    | some g =>
      rw [hj] at hp
      simp only at hp
      cases hgd : g.dst with
      | none => rw [hgd] at hp; exact hp.elim
      | some d =>
        rw [hgd] at hp
        simp only at hp
        cases hc : (Nat.blt d nt && Nat.ble d top) with
        | false => rw [hc] at hp; exact hp.elim
        | true =>
          rw [hc] at hp
          simp only [cond_true, guardRun, evTmp] at hp
          simp only [Bool.and_eq_true, Nat.blt_eq, Nat.ble_eq] at hc
          obtain ⟨g1, g2⟩ := guard_sound k.toRegRel0 hj hgd hc.1 hc.2
          cases hv : T.get .bad (pa d) r <;> rw [hv] at hp <;> simp only at hp <;> try (exact hp.elim)
          · rename_i b
            have hy := g1 b hv
            cases hb : (bif want then b else !b) with
            | true =>
              rw [hb] at hp
              simp only [cond_true] at hp
              refine operRun_sound hN hcall hbody hi hd k s ?_ hp
              simp only [Region.wanted, hg, hy]
              cases want <;> cases b <;> simp_all
            | false =>
              rw [hb] at hp
              simp only [cond_false] at hp
              refine unwanted_sound hi hd k s ?_ hp
              simp only [Region.wanted, hg, hy]
              cases want <;> cases b <;> simp_all
          · rename_i vs
            have hy := g2 vs hv
            refine unwanted_sound hi hd k s ?_ hp
            simp only [Region.wanted, hg, hy]
            rfl
theorem DRel.list {E : Env} {v : V} {ds : List Deferred} (k : DRel E v ds) : DRelL E v.list ds := by
  cases v <;> first
    | exact k
theorem operC_sound {rd : Option Nat} {w0 : Fr} {E : Env} {h : Heap} {w : World} {call : CallF} (hN : NamesOk P) (hcall : CallOk P call) (hbody : CallBody P call) {all : Array Oper} {i : Nat} {o : Oper} (hi : all[i]? = some o) {nt : Nat} {r : Regs} {a : Act}
    (hr : rd = none ∨ noDefer o = true) (k : RegRel E nt r a) (s : Sim w0 E h w) {K : Act → World → Prop} {Q : Exit → Act → World → Prop}
    (hp : PostR w0 E nt K Q ((operC P nt all o).run call r h)) : wpOpIn (Wd rd) 0 P all Q i K a w := by
  unfold operC at hp
  cases hd : dstFine nt o.dst with
  | false => rw [hd] at hp; exact hp.elim
  | true =>
    rw [hd] at hp
    simp only [cond_true] at hp
    obtain ⟨dst, op, type, pos, after, guard⟩ := o
    cases op with
    | defer c =>
      rcases hr with rfl | hr
      case inr => cases hr
      simp only at hp
      cases guard with
      | some _ => exact hp.elim
      | none =>
        simp only at hp
        obtain ⟨callee, args, types⟩ := c
        simp only [deferC] at hp
        cases callee <;> simp only at hp <;> try (exact hp.elim)
        rename_i f
        unfold deferRun at hp
        have hf := evC_sound k.toRegRel0 f
        generalize (evC f).run r = vf at hp hf
        cases vf <;> simp only at hp <;> try (exact hp.elim)
        rename_i g cs
        cases hy : Nat.beq g yieldId with
        | true => rw [hy] at hp; exact hp.elim
        | false =>
          rw [hy] at hp
          simp only [cond_false] at hp
          have hgy : g ≠ yieldId := fun e => by rw [e] at hy; exact absurd hy (by decide)
          simp only [Rel] at hf
          rcases hf with ⟨_, caps, hX, hl⟩ | ⟨hg, _⟩
          case inr => exact absurd hg hgy
          simp only [wpOpIn, hi, Region.wanted, if_true]
          refine ⟨fun _ _ => trivial, ?_⟩
          have hex : ((Oper.mk dst (.defer ⟨.value f, args, types⟩) type pos after none).semAt (Wd none).round a.eval).run P w = .ok (.defer { target := .fn (.func g) caps, args := #[] ++ args.map a.eval }) w := by
            simp only [Oper.semAt_none, execOp, resolve, hX, Deferred.ofValue, pure_bind]
            rfl
          rw [hex]
          refine hp E _ w (Env.le.refl E) (RegRel.put ?_ hd (by simp only [Rel]; exact ⟨#[], rfl, rfl⟩)) s
          refine ⟨⟨k.size, fun t ht => ?_⟩, ?_⟩
          rotate_left
          · rw [T.get_put, if_pos rfl]
            simp only [DRel, DRelL]
            refine ⟨_, _, rfl, ⟨hgy, caps, rfl, ?_⟩, k.defers.list⟩
            have := (evsC_sound k.toRegRel0 args.toList).append hl
            simpa using this
          · rw [T.get_put, if_neg (fun e => pa_dslot ht e.symm)]
            exact k.reg t ht
    | binOp op t x y u =>
      simp only at hp
      cases guard with
      | some g => exact operC0_sound hN hcall hbody hi hd k s hp
      | none =>
        simp only at hp
        cases hpo : ptrOp P op t with
        | none => rw [hpo] at hp; exact operC0_sound hN hcall hbody hi hd k s hp
        | some neg =>
          rw [hpo] at hp
          simp only [ptrRun] at hp
          cases hq : ptrEqH h ((evC x).run r) ((evC y).run r) with
          | none => rw [hq] at hp; exact operC0_sound hN hcall hbody hi hd k s hp
          | some b =>
            rw [hq] at hp
            simp only [wpOpIn, hi, Region.wanted, if_true]
            obtain ⟨Z, hZ, hR⟩ := ptrBin_sound (P := P) (ox := x) (oy := y) s hpo hq (evC_sound k.toRegRel0 x) (evC_sound k.toRegRel0 y)
            exact wp_gives rfl (Gives.plain s hZ hR) fun E' v w' q1 q2 q3 => hp E' _ w' q1 ((k.mono q1).put hd q2) q3
    | _ => exact operC0_sound hN hcall hbody hi hd k s hp
theorem opsC_sound {rd : Option Nat} {w0 : Fr} {call : CallF} (hN : NamesOk P) (hcall : CallOk P call) (hbody : CallBody P call) {all : Array Oper} {nt : Nat} {Q : Exit → Act → World → Prop} : ∀ (l : List Oper) (i : Nat), (∀ j, l[j]? = all[i + j]?) → (rd = none ∨ ∀ o ∈ l, noDefer o = true) →
    ∀ (E : Env) (r : Regs) (h : Heap) (a : Act) (w : World), PostR w0 E nt (Q .normal) Q ((opsC P nt all l).run call r h) → RegRel E nt r a → Sim w0 E h w →
    wpOpsIn (Wd rd) 0 P all Q (List.range' i l.length) a w
  | [], i, _, _, E, r, h, a, w, hp, k, s => by
    simp only [opsC] at hp
    simp only [List.length_nil, List.range'_zero, wpOpsIn]
    exact hp E a w (Env.le.refl E) k s
  | o :: os, i, hl, hr, E, r, h, a, w, hp, k, s => by
    simp only [opsC, seqRun] at hp
    have hi : all[i]? = some o := by have := hl 0; simpa using this.symm
    rw [List.length_cons, List.range'_succ, wpOpsIn_cons]
    refine operC_sound hN hcall hbody hi (hr.imp id fun h => h o (by simp)) k s ?_
    cases h1 : (operC P nt all o).run call r h with
    | fail => rw [h1] at hp; exact hp
    | pan v r1 hh1 => rw [h1] at hp; exact hp
    | ok r1 hh1 =>
      rw [h1] at hp
      simp only at hp
      intro E' a' w' q1 q2 q3
      refine opsC_sound hN hcall hbody os (i + 1) (fun j => ?_) (hr.imp id fun h o' ho' => h o' (by simp [ho'])) E' r1 hh1 a' w' (hp.up q1) q2 q3
      have := hl (j + 1)
      simp only [List.getElem?_cons_succ] at this
      rw [this]
      congr 1
      omega
end
end Go.Proofs.YtigflhomnoledaaGreatDoor.Am
namespace Go.Proofs.YtigflhomnoledaaGreatDoor.Am
variable [Lay]
open Go Go.RowKit
theorem eqV1_eq {a b : V} (h : eqV1 a b = true) : a = b := by
  cases a <;> cases b <;> simp only [eqV1] at h <;> first
    | rfl
    | (cases h; done)
    | (rename_i x y; cases x <;> cases y <;> simp_all; done)
    | (rename_i k x l y
       simp only [Bool.and_eq_true] at h
       have h1 := eqKind_eq h.1
       have h2 := h.2
       rw [eqB_eq, beq_iff_eq] at h2
       rw [h1, h2]; done)
    | (rw [beqBytes_eq, beq_iff_eq] at h; rw [h]; done)
    | (simp only [Bool.and_eq_true, Nat.beq_eq] at h
       obtain ⟨h1, h2, h3, h4⟩ := h
       rw [Pa.eqB_eq h1, h2, h3, h4]; done)
    | (simp only [Bool.and_eq_true, Nat.beq_eq] at h
       rw [Pa.eqB_eq h.1, h.2]; done)
    | (rw [Pa.eqB_eq h]; done)
    | (simp only [Bool.and_eq_true, Nat.beq_eq, List.isEmpty_iff] at h
       obtain ⟨h1, h2, h3⟩ := h
       rw [h1, h2, h3]; done)
    | (simp only [Bool.and_eq_true, List.isEmpty_iff] at h
       rw [h.1, h.2]; done)
theorem eqLs_eq {f : V → V → Bool} (hf : ∀ a b, f a b = true → a = b) : ∀ {a b : List V}, eqLs f a b = true → a = b
  | [], [], _ => rfl
  | [], _ :: _, h => by cases h
  | _ :: _, [], h => by cases h
  | a :: x, b :: y, h => by
    simp only [eqLs] at h
    cases h1 : f a b with
    | false => rw [h1] at h; cases h
    | true =>
      rw [h1] at h
      rw [hf a b h1, eqLs_eq hf h]
theorem bif_true {c x : Bool} (h : (bif c then x else false) = true) : c = true ∧ x = true := by
  cases c with
  | false => cases h
  | true => exact ⟨rfl, h⟩
theorem eqVd_eq : ∀ (d : Nat) (a b : V), eqVd d a b = true → a = b
  | 0, a, b, h => eqV1_eq h
  | d + 1, a, b, h => by
    have ih := eqVd_eq d
    cases a <;> simp only [eqVd] at h <;> first
      | exact eqV1_eq h
      | (cases b <;> simp only at h <;> first
          | (cases h; done)
          | rfl
          | (rw [eqLs_eq ih h]; done)
          | (obtain ⟨h1, h2⟩ := bif_true h
             rw [Nat.beq_eq] at h1
             rw [h1]
             first
               | rw [eqLs_eq ih h2]
               | rw [ih _ _ h2]))
theorem eqV_eq {a b : V} (h : eqV a b = true) : a = b := eqVd_eq 5 a b h
theorem bitB_eq (m i : Nat) : bitB m i = m.testBit i := by
  rw [Nat.testBit_eq_decide_div_mod_eq]
  unfold bitB
  have e : Nat.mod (Nat.shiftRight m i) 2 = m / 2 ^ i % 2 := by
    show (m >>> i) % 2 = _
    rw [Nat.shiftRight_eq_div_pow]
  rw [e, Bool.eq_iff_iff, Nat.beq_eq, decide_eq_true_eq]
theorem maskOf_bit {masks : List Nat} {i : Nat} : ∀ {es : List Edge}, bitB (maskOf masks es) i = true → ∃ e ∈ es, bindsB e = true ∧ (e.on = i ∨ bitB ((masks[e.on]?).getD 0) i = true)
  | [], h => by simp [maskOf, bitB_eq] at h
  | e :: es, h => by
    simp only [maskOf] at h
    cases hb : bindsB e with
    | false =>
      rw [hb] at h
      obtain ⟨e', h1, h2⟩ := maskOf_bit (es := es) h
      exact ⟨e', by simp [h1], h2⟩
    | true =>
      rw [hb] at h
      simp only [cond_true, bitB_eq] at h
      have h' : ((1 <<< e.on ||| (masks[e.on]?).getD 0) ||| maskOf masks es).testBit i = true := h
      rw [Nat.testBit_or, Nat.testBit_or, Bool.or_eq_true, Bool.or_eq_true] at h'
      rcases h' with (h1 | h1) | h1
      · refine ⟨e, by simp, hb, .inl ?_⟩
        rw [Nat.testBit_shiftLeft] at h1
        simp only [Bool.and_eq_true, decide_eq_true_eq] at h1
        have := h1.2
        rw [Nat.testBit_one_eq_true_iff_self_eq_zero] at this
        omega
      · exact ⟨e, by simp, hb, .inr (by rw [bitB_eq]; exact h1)⟩
      · rw [← bitB_eq] at h1
        obtain ⟨e', q1, q2⟩ := maskOf_bit (es := es) h1
        exact ⟨e', by simp [q1], q2⟩
def DownP (ops : Array Oper) (L : Nat → Prop) : Prop := ∀ k o e, L k → ops[k]? = some o → e ∈ o.after.toList → bindsB e = true → L e.on
theorem masksFrom_ok {ops : Array Oper} {L : Nat → Prop} (hD : DownP ops L) : ∀ (os : List Oper) (masks : List Nat), (∀ j, os[j]? = ops[masks.length + j]?) →
    (∀ k m i, masks[k]? = some m → bitB m i = true → L k → L i) → ∀ k m i, (masksFrom masks os)[k]? = some m → bitB m i = true → L k → L i
  | [], masks, _, h, k, m, i, hk, hb, hL => h k m i hk hb hL
  | o :: os, masks, hos, h, k, m, i, hk, hb, hL => by
    simp only [masksFrom] at hk
    refine masksFrom_ok hD os (masks ++ [maskOf masks o.after.toList]) (fun j => ?_) (fun k m i hk hb hL => ?_) k m i hk hb hL
    · have := hos (j + 1)
      simp only [List.getElem?_cons_succ] at this
      rw [this]
      congr 1
      simp
      omega
    · by_cases hlt : k < masks.length
      · rw [List.getElem?_append_left hlt] at hk
        exact h k m i hk hb hL
      · rw [List.getElem?_append_right (by omega)] at hk
        have hk0 : k - masks.length = 0 := by
          cases hz : k - masks.length with
          | zero => rfl
          | succ n => rw [hz] at hk; simp at hk
        rw [hk0] at hk
        simp only [List.getElem?_cons_zero, Option.some.injEq] at hk
        subst hk
        have hko : k = masks.length := by omega
        have ho : ops[k]? = some o := by have := hos 0; simp only [List.getElem?_cons_zero, Nat.add_zero] at this; rw [hko]; exact this.symm
        obtain ⟨e, he, hbe, hor⟩ := maskOf_bit hb
        have hLe := hD k o e hL ho he hbe
        rcases hor with rfl | hor
        · exact hLe
        · cases hm : masks[e.on]? with
          | none => rw [hm] at hor; simp [bitB_eq] at hor
          | some m' => rw [hm] at hor; exact h e.on m' i hm hor hLe
theorem zipAll_get {f : Nat → Nat → Oper → Bool} : ∀ {k : Nat} {ms : List Nat} {os : List Oper}, zipAll f k ms os = true → ∀ j o, os[j]? = some o → ∃ m, ms[j]? = some m ∧ f (k + j) m o = true
  | _, _, [], _, j, o, h => by simp at h
  | _, [], _ :: _, h, _, _, _ => by cases h
  | k, m :: ms, o' :: os, h, j, o, ho => by
    simp only [zipAll, Bool.and_eq_true] at h
    cases j with
    | zero => simp only [List.getElem?_cons_zero, Option.some.injEq] at ho; subst ho; exact ⟨m, rfl, h.1⟩
    | succ j =>
      obtain ⟨m', h1, h2⟩ := zipAll_get h.2 j o (by simpa using ho)
      exact ⟨m', by simpa using h1, by rw [show k + (j + 1) = k + 1 + j from by omega]; exact h2⟩
theorem zipAll_mk {f : Nat → Nat → Oper → Bool} : ∀ {k : Nat} {ms : List Nat} {os : List Oper}, ms.length = os.length → (∀ j m o, ms[j]? = some m → os[j]? = some o → f (k + j) m o = true) → zipAll f k ms os = true
  | _, [], [], _, _ => rfl
  | _, [], _ :: _, h, _ => by simp at h
  | _, _ :: _, [], h, _ => by simp at h
  | k, m :: ms, o :: os, h, hf => by
    simp only [zipAll, Bool.and_eq_true]
    refine ⟨hf 0 m o rfl rfl, zipAll_mk (by simpa using h) fun j m' o' h1 h2 => ?_⟩
    have := hf (j + 1) m' o' (by simpa using h1) (by simpa using h2)
    rw [show k + 1 + j = k + (j + 1) from by omega]
    exact this
theorem masksFrom_length : ∀ (os : List Oper) (masks : List Nat), (masksFrom masks os).length = masks.length + os.length
  | [], masks => rfl
  | o :: os, masks => by simp [masksFrom, masksFrom_length os]; omega
section
variable {P : Program}
theorem cop_quiet {o : Oper} {call : CallF} {r : Regs} {h h' : Heap} {v : V} (hq : isEff P o.op = false) (he : (cop P o).run call r h = .val v h') : h' = h := by
  obtain ⟨dst, op, type, pos, after, guard⟩ := o
  cases op <;> simp only [isEff] at hq <;> try (cases hq; done)
  all_goals simp only [cop] at he
  case convert s d x =>
    unfold convC at he
    cases hs : tiOf P s with
    | none => rw [hs] at he; cases he
    | some si =>
      cases hd : tiOf P d with
      | none => rw [hd] at hq; cases hq
      | some di =>
        rw [hs, hd] at he
        rw [hd] at hq
        simp only at he hq
        cases hu : di.und with
        | int k =>
          rw [hu] at he
          obtain ⟨k', n, _, h1⟩ := onInt_val he
          simp only [OR.val.injEq] at h1
          exact h1.2.symm
        | slice e => rw [hu] at hq; cases hq
        | string =>
          rw [hu] at he
          simp only at he
          have other : ∀ x : V, (match x with
              | .str s => OR.val (.str s) h
              | .int _ n => .val (.str (Utf8.encode n).data.toList) h
              | _ => .fail) = .val v h' → h' = h := by
            intro x he
            cases x <;> simp only at he <;> first
              | (cases he; done)
              | (simp only [OR.val.injEq] at he; exact he.2.symm)
          cases hsu : si.und with
          | slice e =>
            rw [hsu] at he
            simp only at he
            cases hte : tiOf P e with
            | none => rw [hte] at he; cases he
            | some ei =>
              rw [hte] at he
              simp only at he
              have strq : ∀ b off len, strAt b off len h = .val v h' → h' = h := by
                intro b off len he
                unfold strAt at he
                cases hg : h.get b <;> rw [hg] at he <;> simp only [Blk.see] at he <;> try (cases he; done)
                all_goals
                  obtain ⟨_, h2⟩ := cond_val he
                  cases hu8 : uint8s (gets _ off len) <;> rw [hu8] at h2 <;> first
                    | (cases h2; done)
                    | (simp only [OR.val.injEq] at h2; exact h2.2.symm)
              cases hei : ei.und with
              | int ke =>
                rw [hei] at he
                cases ke <;> simp only at he <;> try (cases he; done)
                simp only [convStr] at he
                cases hx : (evC x).run r <;> rw [hx] at he <;> simp only at he <;> first
                  | (cases he; done)
                  | exact strq _ _ _ he
                  | (simp only [OR.val.injEq] at he; exact he.2.symm)
              | _ => rw [hei] at he; cases he
          | _ => rw [hsu] at he; exact other _ he
        | _ => rw [hu] at he; cases he
  case call c =>
    obtain ⟨callee, args, types⟩ := c
    cases callee <;> simp only at hq <;> try (cases hq; done)
    rename_i b
    simp only [callC] at he
    cases b <;> simp only at hq <;> try (cases hq; done)
    · simp only [builtC] at he
      cases hts : types.toList with
      | nil => rw [hts] at he; simp [BuiltC.none] at he
      | cons t ts =>
        cases ts with
        | cons _ _ => rw [hts] at he; simp [BuiltC.none] at he
        | nil =>
          rw [hts] at he
          simp only at he
          cases ht : tiOf P t with
          | none => rw [ht] at he; simp [BuiltC.none] at he
          | some ti =>
            rw [ht] at he
            rw [hts] at hq
            simp only [isMapTop, ht] at hq
            simp only [hq, cond_false] at he
            split at he
            · exact (OR.of_val he).2
            · cases he
    · exact (OR.of_val he).2
    · exact (OR.of_val he).2
  case move => simp only [OR.val.injEq] at he; exact he.2.symm
  case assign => simp only [OR.val.injEq] at he; exact he.2.symm
  case pick c a b =>
    split at he
    · simp only [OR.val.injEq] at he; exact he.2.symm
    · cases he
  case makeFunc fn first caps =>
    cases fn <;> simp only at he <;> try (simp [OpC.none] at he; done)
    rename_i f
    cases hf : (first.isEmpty && !Nat.beq f yieldId) <;> rw [hf] at he
    · simp only [cond_false] at he
      cases hf2 : (caps.isEmpty && !Nat.beq f yieldId) <;> rw [hf2] at he
      · simp [OpC.none] at he
      · simp only [cond_true, OR.val.injEq] at he; exact he.2.symm
    · simp only [cond_true, OR.val.injEq] at he; exact he.2.symm
  case typeAssert x xt t ok =>
    cases ht : tiOf P t with
    | none => rw [ht] at he; simp [OpC.none] at he
    | some ti =>
      rw [ht] at he
      simp only at he
      cases hb : Nat.beq (nilKindD ti.und) 5 <;> rw [hb] at he
      · exact (OR.of_val he).2
      · simp [OpC.none] at he
  case makeInterface t x =>
    cases ht : tiOf P t with
    | none => rw [ht] at he; simp [OpC.none] at he
    | some ti =>
      rw [ht] at he
      simp only at he
      cases hb : Nat.beq (nilKindD ti.und) 5 <;> rw [hb] at he
      · simp only [cond_false, OR.val.injEq] at he; exact he.2.symm
      · simp [OpC.none] at he
  case extract x i =>
    split at he
    · exact (OR.of_val he).2
    · cases he
  all_goals exact (OR.of_val he).2
theorem OR.of_any {h h' : Heap} {x : Option V} {v : V} (he : OR.of h x = .val v h') (H : Heap) : OR.of H x = .val v H := by
  rw [(OR.of_val he).1]; rfl
theorem cop_pure {o : Oper} {call : CallF} {r : Regs} {h h' : Heap} {v : V} (hq : isEff P o.op = false) (hl : looks o.op = false) (he : (cop P o).run call r h = .val v h') (H : Heap) : (cop P o).run call r H = .val v H := by
  obtain ⟨dst, op, type, pos, after, guard⟩ := o
  cases op <;> simp only [isEff] at hq <;> try (cases hq; done)
  all_goals simp only [looks] at hl <;> try (cases hl; done)
  all_goals simp only [cop] at he ⊢
  case call c =>
    obtain ⟨callee, args, types⟩ := c
    cases callee <;> simp only at hq <;> try (cases hq; done)
    rename_i b
    simp only [callC] at he ⊢
    cases b <;> simp only at hq <;> try (cases hq; done)
    · simp only [builtC] at he ⊢
      cases hts : types.toList with
      | nil => rw [hts] at he; simp [BuiltC.none] at he
      | cons t ts =>
        cases ts with
        | cons _ _ => rw [hts] at he; simp [BuiltC.none] at he
        | nil =>
          rw [hts] at he
          simp only at he ⊢
          cases ht : tiOf P t with
          | none => rw [ht] at he; simp [BuiltC.none] at he
          | some ti =>
            rw [ht] at he
            rw [hts] at hq
            simp only [isMapTop, ht] at hq
            simp only [hq, cond_false] at he ⊢
            split at he
            · exact OR.of_any he H
            · cases he
    · exact OR.of_any he H
    · exact OR.of_any he H
  case move => simp only [OR.val.injEq] at he; rw [he.1]
  case assign => simp only [OR.val.injEq] at he; rw [he.1]
  case pick c a b =>
    split at he
    · simp only [OR.val.injEq] at he; rw [he.1]
    · cases he
  case makeFunc fn first caps =>
    cases fn <;> simp only at he ⊢ <;> try (simp [OpC.none] at he; done)
    rename_i f
    cases hf : (first.isEmpty && !Nat.beq f yieldId) <;> rw [hf] at he
    · simp only [cond_false] at he ⊢
      cases hf2 : (caps.isEmpty && !Nat.beq f yieldId) <;> rw [hf2] at he
      · simp [OpC.none] at he
      · simp only [cond_true, OR.val.injEq] at he ⊢; exact ⟨he.1, trivial⟩
    · simp only [cond_true, OR.val.injEq] at he ⊢; exact ⟨he.1, trivial⟩
  case typeAssert x xt t ok =>
    cases ht : tiOf P t with
    | none => rw [ht] at he; simp [OpC.none] at he
    | some ti =>
      rw [ht] at he
      simp only at he ⊢
      cases hb : Nat.beq (nilKindD ti.und) 5 <;> rw [hb] at he
      · exact OR.of_any he H
      · simp [OpC.none] at he
  case makeInterface t x =>
    cases ht : tiOf P t with
    | none => rw [ht] at he; simp [OpC.none] at he
    | some ti =>
      rw [ht] at he
      simp only at he ⊢
      cases hb : Nat.beq (nilKindD ti.und) 5 <;> rw [hb] at he
      · simp only [cond_false, OR.val.injEq] at he ⊢; exact ⟨he.1, trivial⟩
      · simp [OpC.none] at he
  case extract x i =>
    split at he
    · exact OR.of_any he H
    · cases he
  all_goals exact OR.of_any he H
end
end Go.Proofs.YtigflhomnoledaaGreatDoor.Am
namespace Go.Proofs.YtigflhomnoledaaGreatDoor.Am
variable [Lay]
open Go Go.RowKit
section
variable {P : Program}
def Makes (P : Program) (E : Env) (m : Sem Value) (v : V) (h h' : Heap) : Prop :=
  ∃ k, h' = h.new k ∧ True ∧ ∀ w, ∃ X ob, m.run P w = .ok X { w with heap := w.heap.push ob } ∧
    ∀ E', E.le E' → E' (pa h.next) = some ⟨w.heap.size, 0, 0⟩ → Rel E' v X ∧ ∀ B, B ≤ w.heap.size → BlkRel B E' { w with heap := w.heap.push ob } (pa h.next) k
theorem newCells_makes {E : Env} {h h' : Heap} {vs : List V} {l : List Value} (hl : RelL E vs l) (he : newCells h vs = some h') (t : TypeId) :
    ∃ k, h' = h.new k ∧ True ∧ ∀ w, (newRow t l.toArray).run P w = .ok ⟨w.heap.size, 0, none⟩ { w with heap := w.heap.push (.cells l.toArray t) } ∧
      ∀ E', E.le E' → E' (pa h.next) = some ⟨w.heap.size, 0, 0⟩ → ∀ B, B ≤ w.heap.size → BlkRel B E' { w with heap := w.heap.push (.cells l.toArray t) } (pa h.next) k := by
  unfold newCells at he
  obtain ⟨hc, he⟩ := cond_some he
  rw [Nat.ble_eq] at hc
  cases he
  refine ⟨_, rfl, trivial, fun w => ⟨by simp [newRow], fun E' hle hput B hB => ?_⟩⟩
  have := fresh_cells (RelL.mono hle _ _ hl) hc #[]
  rw [Array.append_empty] at this
  exact ⟨hc, _, _, t, (0, 0), hput, hB, by simp, .inr (Nat.le_refl _), fun _ => rfl, fun h => absurd rfl h, this⟩
theorem buildSlice_makes {E : Env} {h h' : Heap} {t : TypeId} {n : Nat} {ps : List (Nat × V)} {qs : List (Nat × Value)} {v : V} (hp : RelP E ps qs) (he : (buildSliceC P t n).run ps h = .val v h') :
    Makes P E (Instr.buildSlice t n qs.toArray) v h h' := by
  unfold buildSliceC at he
  cases ht : tiOf P t with
  | none => rw [ht] at he; cases he
  | some ti =>
    rw [ht] at he
    simp only at he
    have hu := run_und ht
    cases hund : ti.und with
    | slice e =>
      rw [hund] at he hu
      simp only at he
      cases hte : tiOf P e with
      | none => rw [hte] at he; cases he
      | some ei =>
        rw [hte] at he
        simp only at he
        cases hz : ei.zero with
        | none => rw [hz] at he; cases he
        | some z =>
          rw [hz] at he
          simp only at he
          cases hc : (Nat.ble (n * ei.size) 1000000 && Nat.beq z.cells.length ei.size) with
          | false => rw [hc] at he; cases he
          | true =>
            rw [hc] at he
            simp only [cond_true] at he
            simp only [Bool.and_eq_true, Nat.ble_eq, Nat.beq_eq] at hc
            cases hf : fillV (fun i => some (i * ei.size, ei.size)) (repeatV z.cells n) ps with
            | none => rw [hf] at he; cases he
            | some cs =>
              rw [hf] at he
              simp only at he
              cases hn : newCells h cs with
              | none => rw [hn] at he; cases he
              | some h1 =>
                rw [hn] at he
                simp only [OR.val.injEq] at he
                obtain ⟨rfl, rfl⟩ := he
                obtain ⟨x, hx, hxr, hxs⟩ := zero_cells (P := P) (E := E) hte hz ⟨#[], fun _ _ => 0, 0, default, #[]⟩
                have hxs' : x.cells.size = ei.size := by rw [hxs, hc.2]
                have hrep := repeat_rel hxr n
                rw [hxs'] at hrep
                obtain ⟨b, hb1, hb2⟩ := fillV_sound (a := (Array.range (n * ei.size)).map (x.cells[· % x.cells.size]!)) hp (by rw [hxs']; exact hrep) hf
                obtain ⟨k, g1, g2, g3⟩ := newCells_makes (P := P) hb2 hn e
                refine ⟨k, g1, g2, fun w => ⟨.slice (some ⟨w.heap.size, 0, none⟩) n n, .cells b e, ?_, fun E' hle hput => ⟨?_, ?_⟩⟩⟩
                · have hlim : ¬ 16777216 < n * ei.size := by omega
                  have hg3 : (newRow e b).run P w = .ok ⟨w.heap.size, 0, none⟩ { w with heap := w.heap.push (.cells b e) } := by simpa using (g3 w).1
                  by_cases h0 : n * ei.size = 0
                  · have hb1' : Instr.fill (fun i => some (i * ei.size, ei.size)) ((Array.range (n * ei.size)).map ((#[] : Array Value)[· % 0]!)) qs = some b := by
                      have e1 : (Array.range (n * ei.size)).map ((#[] : Array Value)[· % 0]!) = (Array.range (n * ei.size)).map (x.cells[· % x.cells.size]!) := by
                        rw [h0]; simp
                      rw [e1]; exact hb1
                    have hb1'' : Instr.fill (fun i => some (i * ei.size, ei.size)) ((Array.range (n * ei.size)).map (fun x => (#[] : Array Value)[x % (#[] : Array Value).size]!)) qs = some b := hb1'
                    simp only [Instr.buildSlice, Sem.run_bind, hu, Result.andThen_ok, run_size hte, Sem.run_ite]
                    rw [if_neg hlim]
                    simp only [Sem.run_pure, Result.andThen_ok, if_pos h0]
                    rw [hb1'']
                    simp only [Sem.run_bind, hg3, Result.andThen_ok, Sem.run_pure]
                  · simp only [Instr.buildSlice, Sem.run_bind, hu, Result.andThen_ok, run_size hte, Sem.run_ite]
                    rw [if_neg hlim]
                    simp only [Sem.run_pure, Result.andThen_ok, if_neg h0, hx]
                    rw [hb1]
                    simp only [Sem.run_bind, hg3, Result.andThen_ok, Sem.run_pure]
                · simp only [Rel]
                  exact ⟨_, hput, Nat.le_refl _, by simp⟩
                · simpa using (g3 w).2 E' hle hput
    | _ => rw [hund] at he; cases he
set_option maxHeartbeats 2000000 in
theorem cop_makes {E : Env} {h h' : Heap} {call : CallF} {o : Oper} {nt : Nat} {r : Regs} {a : Act} {v : V} (ha : isAlloc o = true) (he : (cop P o).run call r h = .val v h') (k : RegRel0 E nt r a) :
    ∃ m : Sem Value, execOp a.eval o = (do pure (.value (← m))) ∧ Makes P E m v h h' := by
  obtain ⟨dst, op, type, pos, after, guard⟩ := o
  cases op <;> simp only [isAlloc] at ha <;> try (cases ha; done)
  all_goals simp only [cop] at he
  case alloc t =>
    refine ⟨Instr.alloc t true (.tuple #[]), rfl, ?_⟩
    cases ht : tiOf P t with
    | none => rw [ht] at he; simp [OpC.none] at he
    | some ti =>
      rw [ht] at he
      simp only at he
      cases hz : ti.zero with
      | none => rw [hz] at he; simp [OpC.none] at he
      | some z =>
        rw [hz] at he
        simp only at he
        cases hn : newCells h z.cells with
        | none => rw [hn] at he; cases he
        | some h1 =>
          rw [hn] at he
          simp only [orHeap, OR.val.injEq] at he; obtain ⟨rfl, rfl⟩ := he
          obtain ⟨x, hx, hxr, _⟩ := zero_cells (P := P) (E := E) ht hz ⟨#[], fun _ _ => 0, 0, default, #[]⟩
          obtain ⟨kk, g1, g2, g3⟩ := newCells_makes (P := P) hxr hn t
          refine ⟨kk, g1, g2, fun w => ⟨.pointer (some ⟨w.heap.size, 0, none⟩), .cells x.cells t, ?_, fun E' hle hput => ⟨?_, ?_⟩⟩⟩
          · have := (g3 w).1
            simp only [Array.toArray_toList] at this
            simp only [Instr.alloc, Sem.run_bind, hx, Result.andThen_ok, newVar, this, Sem.run_pure]
          · simp only [Rel]; exact ⟨_, hput, by simp⟩
          · simpa using (g3 w).2 E' hle hput
  case box t x =>
    refine ⟨Instr.box t (a.eval x), rfl, ?_⟩
    obtain ⟨hg, he⟩ := cond_val he
    cases hn : newCells h ((evC x).run r).cells with
    | none => rw [hn] at he; cases he
    | some h1 =>
      rw [hn] at he
      simp only [orHeap, OR.val.injEq] at he; obtain ⟨rfl, rfl⟩ := he
      have hl := (evC_sound k x).cells (fun e => by rw [e] at hg; cases hg)
      obtain ⟨kk, g1, g2, g3⟩ := newCells_makes (P := P) hl hn t
      refine ⟨kk, g1, g2, fun w => ⟨.pointer (some ⟨w.heap.size, 0, none⟩), .cells (a.eval x).cells t, ?_, fun E' hle hput => ⟨?_, ?_⟩⟩⟩
      · have := (g3 w).1
        simp only [Array.toArray_toList] at this
        simp only [Instr.box, Sem.run_bind, newVar, this, Result.andThen_ok, Sem.run_pure]
      · simp only [Rel]; exact ⟨_, hput, by simp⟩
      · simpa using (g3 w).2 E' hle hput
  case buildSlice t n ps =>
    refine ⟨Instr.buildSlice t n (ps.map fun (i, x) => (i, a.eval x)), rfl, ?_⟩
    rw [parts_array]
    exact buildSlice_makes (partsC_sound k ps.toList) he
  case makeMap t x =>
    cases x with
    | some _ => cases ha
    | none =>
      refine ⟨Instr.makeMap t none, rfl, ?_⟩
      simp only [optC, makeMapC] at he
      cases ht : tiOf P t with
      | none => rw [ht] at he; cases he
      | some ti =>
        rw [ht] at he
        simp only at he
        cases hb : Nat.beq (nilKindD ti.und) 3 with
        | false => rw [hb] at he; cases he
        | true =>
          rw [hb] at he
          simp only [cond_true, makeMapV, newMap] at he
          simp only [OR.val.injEq] at he
          obtain ⟨rfl, rfl⟩ := he
          refine ⟨_, rfl, trivial, fun w => ⟨.map (some w.heap.size), .map #[] 0, ?_, fun E' hle hput => ⟨?_, fun B hB => ?_⟩⟩⟩
          · simp only [Instr.makeMap, Sem.run_bind, run_newObj, Result.andThen_ok, Sem.run_pure]
          · simp only [Rel]; exact ⟨_, hput, rfl⟩
          · exact ⟨_, #[], hput, hB, by simp, rfl⟩
def Fr.hold (F : Fr) (b : Pa) (k : Blk) : Fr := ⟨F.w, fun b' => if b' = b then some k else F.pend b'⟩
def Fr.free (F : Fr) (b : Pa) : Fr := ⟨F.w, fun b' => if b' = b then none else F.pend b'⟩
theorem Sim.hold {F : Fr} {E : Env} {h : Heap} {w : World} (s : Sim F E h w) (k : Blk) : Sim (F.hold (pa h.next) k) E (h.new k) w := by
  have hnone := s.fresh h.next (Nat.le_refl _)
  refine ⟨fun b hb => ?_, fun b k' hk => ?_, fun b b' p p' h1 h2 e1 e2 hbb => ?_, fun i hi => s.fresh i (Nat.le_of_succ_le hi), s.frame, s.laid, fun b p n cs st h1 e1 => s.base b p n cs st (by
    have n1 : pa h.next ≠ b := fun e => by rw [← e, hnone] at e1; cases e1
    rwa [Heap.get_new, if_neg n1] at h1) e1⟩
  · simp only [Fr.hold] at hb
    by_cases hq : b = pa h.next
    · rw [if_pos hq] at hb; cases hb
    · rw [if_neg hq] at hb
      rw [Heap.get_new, if_neg (fun e => hq e.symm)]
      exact s.blk b hb
  · simp only [Fr.hold] at hk
    by_cases hq : b = pa h.next
    · rw [if_pos hq] at hk
      cases hk
      exact ⟨by rw [Heap.get_new, if_pos hq.symm], by rw [hq]; exact hnone, h.next, Nat.lt_succ_self _, hq⟩
    · rw [if_neg hq] at hk
      obtain ⟨q1, q2, i, q3, q4⟩ := s.pen b k' hk
      exact ⟨by rw [Heap.get_new, if_neg (fun e => hq e.symm)]; exact q1, q2, i, Nat.lt_succ_of_lt q3, q4⟩
  · have n1 : pa h.next ≠ b := fun e => by rw [← e, hnone] at e1; cases e1
    have n2 : pa h.next ≠ b' := fun e => by rw [← e, hnone] at e2; cases e2
    rw [Heap.get_new, if_neg n1] at h1
    rw [Heap.get_new, if_neg n2] at h2
    exact s.inj b b' p p' h1 h2 e1 e2 hbb
theorem Sim.link {F : Fr} {E : Env} {h : Heap} {w : World} (s : Sim F E h w) {b : Pa} {k : Blk} (hp : F.pend b = some k) {o : Obj}
    (hrel : BlkRel F.w.heap.size (E.put b ⟨w.heap.size, 0, 0⟩) { w with heap := w.heap.push o } b k) :
    E.le (E.put b ⟨w.heap.size, 0, 0⟩) ∧ Sim (F.free b) (E.put b ⟨w.heap.size, 0, 0⟩) h { w with heap := w.heap.push o } := by
  obtain ⟨hk, hnone, i0, hi0, hbi⟩ := s.pen b k hp
  have hle : E.le (E.put b ⟨w.heap.size, 0, 0⟩) := Env.le_put hnone
  have hput : E.put b ⟨w.heap.size, 0, 0⟩ b = some ⟨w.heap.size, 0, 0⟩ := by unfold Env.put; rw [if_pos rfl]
  have hold : ∀ b', b' ≠ b → E.put b ⟨w.heap.size, 0, 0⟩ b' = E b' := by intro b' hb; unfold Env.put; rw [if_neg hb]
  have hblk : ∀ b' q, E b' = some q → (h.get b') ≠ .dead → q.blk < w.heap.size := by
    intro b' q hq hd
    have hb := s.at hq
    cases hg : h.get b' with
    | dead => exact absurd hg hd
    | view n cs => rw [hg] at hb; obtain ⟨_, q', c, el, fz, e, _, hh, _⟩ := hb; rw [e] at hq; cases hq; exact (Array.getElem?_eq_some_iff.1 hh).1
    | cells n cs esz st => rw [hg] at hb; obtain ⟨_, q', c, el, fz, e, _, hh, _⟩ := hb; rw [e] at hq; cases hq; exact (Array.getElem?_eq_some_iff.1 hh).1
    | iter st pos => rw [hg] at hb; obtain ⟨q', e, _, _, hh⟩ := hb; rw [e] at hq; cases hq; exact (Array.getElem?_eq_some_iff.1 hh).1
    | mp es clock => rw [hg] at hb; obtain ⟨q', a, e, _, hh, _⟩ := hb; rw [e] at hq; cases hq; exact (Array.getElem?_eq_some_iff.1 hh).1
    | lp l => rw [hg] at hb; obtain ⟨q', a, e, _, hh, _⟩ := hb; rw [e] at hq; cases hq; exact (Array.getElem?_eq_some_iff.1 hh).1
    | dfr => rw [hg] at hb; obtain ⟨q', e, _, hh⟩ := hb; rw [e] at hq; cases hq; exact (Array.getElem?_eq_some_iff.1 hh).1
    | mset es => rw [hg] at hb; obtain ⟨q', a, c, l, e, _, hh, _⟩ := hb; rw [e] at hq; cases hq; exact (Array.getElem?_eq_some_iff.1 hh).1
    | mit src since seen last => rw [hg] at hb; obtain ⟨q', m, a, e, _, _, hh, _⟩ := hb; rw [e] at hq; cases hq; exact (Array.getElem?_eq_some_iff.1 hh).1
  refine ⟨hle, fun b' hb' => ?_, fun b' k' hk' => ?_, fun b1 b2 p1 p2 h1 h2 e1 e2 hbb => ?_, fun i hi => ?_, ⟨s.frame.os, s.frame.tape, s.frame.output, ?_, fun j hj => ?_⟩, s.laid, fun b1 p1 n cs st h1 e1 => by
    by_cases c1 : b1 = b
    · subst c1; rw [hput] at e1; cases e1; rfl
    · rw [hold b1 c1] at e1; exact s.base _ _ _ _ _ h1 e1⟩
  · by_cases hq : b' = b
    · subst hq; rw [hk]; exact hrel
    · simp only [Fr.free, if_neg hq] at hb'
      have h0 := (s.blk b' hb').mono hle
      by_cases hd : h.get b' = .dead
      · rw [hd]; trivial
      · refine BlkRel.keep h0 fun q hq' => ?_
        rw [hold b' hq] at hq'
        have := hblk b' q hq' hd
        simp only [Array.getElem?_push]
        rw [if_neg (by omega)]
  · simp only [Fr.free] at hk'
    by_cases hq : b' = b
    · rw [if_pos hq] at hk'; cases hk'
    · rw [if_neg hq] at hk'
      obtain ⟨q1, q2, q3⟩ := s.pen b' k' hk'
      exact ⟨q1, by rw [hold b' hq]; exact q2, q3⟩
  · by_cases c1 : b1 = b <;> by_cases c2 : b2 = b
    · exact c1.trans c2.symm
    · subst c1
      rw [hput] at e1; cases e1
      rw [hold b2 c2] at e2
      have := hblk b2 p2 e2 (fun e => by rw [e] at h2; cases h2)
      simp only at hbb
      omega
    · subst c2
      rw [hput] at e2; cases e2
      rw [hold b1 c1] at e1
      have := hblk b1 p1 e1 (fun e => by rw [e] at h1; cases h1)
      simp only at hbb
      omega
    · rw [hold b1 c1] at e1
      rw [hold b2 c2] at e2
      exact s.inj b1 b2 p1 p2 h1 h2 e1 e2 hbb
  · rw [hold _ (fun e => ?_)]
    · exact s.fresh i hi
    · rw [hbi] at e
      have := pa_inj e
      omega
  · have := s.frame.size
    simp only [Array.size_push, Fr.free]
    omega
  · have h1 := s.frame.size
    simp only [Fr.free, Array.getElem?_push]
    rw [if_neg (by simp only [Fr.free] at hj; omega)]
    exact s.frame.block j hj
end
end Go.Proofs.YtigflhomnoledaaGreatDoor.Am
namespace Go.Proofs.YtigflhomnoledaaGreatDoor.Am
variable [Lay]
open Go Go.RowKit
section
variable {P : Program}
def regAt (es : List Ent) (rf : Regs) (i : Nat) : Regs :=
  match es[i]? with
  | some e => e.r
  | none => rf
theorem heapAt_succ (e : Ent) (es : List Ent) (hf : Heap) (i : Nat) : heapAt (e :: es) hf (i + 1) = heapAt es hf i := by simp [heapAt]
theorem regAt_succ (e : Ent) (es : List Ent) (rf : Regs) (i : Nat) : regAt (e :: es) rf (i + 1) = regAt es rf i := by simp [regAt]
theorem stepsD_spec {nt : Nat} {all : Array Oper} {call : CallF} : ∀ {l : List Oper} {r rf : Regs} {h hf : Heap} {es : List Ent}, (stepsD P nt all l).run call r h = .ok es rf hf →
    es.length = l.length ∧ heapAt es hf 0 = h ∧ regAt es rf 0 = r ∧ ∀ j o, l[j]? = some o → ∃ e, es[j]? = some e ∧ (dopC P nt all o).run call e.r e.h = .val e.v (heapAt es hf (j + 1)) ∧ regAt es rf (j + 1) = (putC o.dst).run e.r e.v
  | [], r, rf, h, hf, es, he => by
    simp only [stepsD, DR.ok.injEq] at he
    obtain ⟨rfl, rfl, rfl⟩ := he
    exact ⟨rfl, rfl, rfl, fun j o ho => by simp at ho⟩
  | o :: os, r, rf, h, hf, es, he => by
    simp only [stepsD, stepD] at he
    cases h1 : (dopC P nt all o).run call r h with
    | fail => rw [h1] at he; cases he
    | pan _ _ => rw [h1] at he; simp only at he; cases hm : mayPan o.op <;> rw [hm] at he <;> cases he
    | val v hh =>
      rw [h1] at he
      simp only at he
      cases h2 : (stepsD P nt all os).run call ((putC o.dst).run r v) hh with
      | fail => rw [h2] at he; cases he
      | pan _ _ _ _ _ => rw [h2] at he; cases he
      | ok es1 r1 h3 =>
        rw [h2] at he
        simp only [DR.ok.injEq] at he
        obtain ⟨rfl, rfl, rfl⟩ := he
        obtain ⟨q1, q2, q3, q4⟩ := stepsD_spec h2
        refine ⟨by simp [q1], by simp [heapAt], by simp [regAt], fun j o' ho => ?_⟩
        cases j with
        | zero =>
          simp only [List.getElem?_cons_zero, Option.some.injEq] at ho
          subst ho
          exact ⟨⟨r, h, v⟩, rfl, by rw [heapAt_succ, q2]; exact h1, by rw [regAt_succ, q3]⟩
        | succ j =>
          obtain ⟨e, p1, p2, p3⟩ := q4 j o' (by simpa using ho)
          exact ⟨e, by simpa using p1, by rw [heapAt_succ]; exact p2, by rw [regAt_succ]; exact p3⟩
theorem stepsD_pan {nt : Nat} {all : Array Oper} {call : CallF} : ∀ {l : List Oper} {r rf : Regs} {h hf h' : Heap} {es : List Ent} {v : V}, (stepsD P nt all l).run call r h = .pan es rf hf v h' →
    heapAt es hf 0 = h ∧ regAt es rf 0 = r ∧ (∀ j o, j < es.length → l[j]? = some o → ∃ e, es[j]? = some e ∧ (dopC P nt all o).run call e.r e.h = .val e.v (heapAt es hf (j + 1)) ∧ regAt es rf (j + 1) = (putC o.dst).run e.r e.v) ∧
      ∃ o, l[es.length]? = some o ∧ mayPan o.op = true ∧ (dopC P nt all o).run call rf hf = .pan v h'
  | [], r, rf, h, hf, h', es, v, he => by simp [stepsD] at he
  | o :: os, r, rf, h, hf, h', es, v, he => by
    simp only [stepsD, stepD] at he
    cases h1 : (dopC P nt all o).run call r h with
    | fail => rw [h1] at he; cases he
    | pan x hx =>
      rw [h1] at he
      simp only at he
      cases hm : mayPan o.op with
      | false => rw [hm] at he; cases he
      | true =>
        rw [hm] at he
        simp only [cond_true, DR.pan.injEq] at he
        obtain ⟨rfl, rfl, rfl, rfl, rfl⟩ := he
        exact ⟨rfl, rfl, fun j o' hj => by simp at hj, o, rfl, hm, h1⟩
    | val x hh =>
      rw [h1] at he
      simp only at he
      cases h2 : (stepsD P nt all os).run call ((putC o.dst).run r x) hh with
      | fail => rw [h2] at he; cases he
      | ok _ _ _ => rw [h2] at he; cases he
      | pan es1 r1 h3 v1 h4 =>
        rw [h2] at he
        simp only [DR.pan.injEq] at he
        obtain ⟨rfl, rfl, rfl, rfl, rfl⟩ := he
        obtain ⟨q2, q3, q4, o1, q5, q6, q7⟩ := stepsD_pan h2
        refine ⟨by simp [heapAt], by simp [regAt], fun j o' hj ho => ?_, o1, by simpa using q5, q6, q7⟩
        cases j with
        | zero =>
          simp only [List.getElem?_cons_zero, Option.some.injEq] at ho
          subst ho
          exact ⟨⟨r, h, x⟩, rfl, by rw [heapAt_succ, q2]; exact h1, by rw [regAt_succ, q3]⟩
        | succ j =>
          obtain ⟨e, p1, p2, p3⟩ := q4 j o' (by simpa using hj) (by simpa using ho)
          exact ⟨e, by simpa using p1, by rw [heapAt_succ]; exact p2, by rw [regAt_succ]; exact p3⟩
theorem get_put_dst {nt : Nat} {d : Option Nat} (hd : dstFine nt d = true) {r : Regs} {v : V} {t : Nat} (ht : t ≤ top) : T.get .bad (pa t) ((putC d).run r v) = if d = some t then v else T.get .bad (pa t) r := by
  cases d with
  | none => simp [putC]
  | some d =>
    simp only [dstFine, Bool.and_eq_true, Nat.blt_eq, Nat.ble_eq] at hd
    simp only [putC, T.get_put, Option.some.injEq]
    by_cases h : d = t
    · subst h; simp
    · rw [if_neg (fun e => h (pa_inj e)), if_neg h]
theorem dopC_fine {nt : Nat} {all : Array Oper} {o : Oper} {call : CallF} {r : Regs} {h h' : Heap} {v : V} (he : (dopC P nt all o).run call r h = .val v h') : dstFine nt o.dst = true ∧ smallT (readsOf all o) = true := by
  unfold dopC at he
  cases hc : (dstFine nt o.dst && smallT (readsOf all o)) with
  | false => rw [hc] at he; simp [OpC.none] at he
  | true => simpa using hc
theorem trimR_get {r : Regs} {rs : List Nat} (hs : smallT rs = true) {t : Nat} (ht : t ≤ top) : T.get .bad (pa t) (trimR r rs) = if t ∈ rs then T.get .bad (pa t) r else .bad := by
  induction rs with
  | nil => simp [trimR]
  | cons u rs ih =>
    simp only [smallT, List.all_cons, Bool.and_eq_true, Nat.ble_eq] at hs
    simp only [trimR, T.get_put, List.mem_cons]
    by_cases h : u = t
    · subst h; simp
    · rw [if_neg (fun e => h (pa_inj e)), ih hs.2]
      have h' : ¬ t = u := fun e => h e.symm
      simp [h']
theorem dopC_fine' {nt : Nat} {all : Array Oper} {o : Oper} {call : CallF} {r : Regs} {h h' : Heap} {v : V} (he : (dopC P nt all o).run call r h = .pan v h') : dstFine nt o.dst = true ∧ smallT (readsOf all o) = true := by
  unfold dopC at he
  cases hc : (dstFine nt o.dst && smallT (readsOf all o)) with
  | false => rw [hc] at he; simp [OpC.none] at he
  | true => simpa using hc
def PostO (w0 : Fr) (E : Env) (o : Oper) (a : Act) (K : Act → World → Prop) (Q : Exit → Act → World → Prop) : OR → Prop
  | .val v h' => ∀ E' x w', E.le E' → Rel E' v x → Sim w0 E' h' w' → K (a.put o.dst x) w'
  | .pan v h' => mayPan o.op = true ∧ ∀ E' x w', E.le E' → Rel E' v x → Sim w0 E' h' w' → Q (.panic (panic1 x)) a w'
  | .fail => False
theorem dop_post {rd : Option Nat} {w0 : Fr} {E : Env} {h : Heap} {w : World} {call : CallF} (hN : NamesOk P) (hcall : CallOk P call) (hbody : CallBody P call) {all : Array Oper} {i : Nat} {o : Oper} (hi : all[i]? = some o) {nt : Nat} {r : Regs} {a : Act}
    (hfine : dstFine nt o.dst = true ∧ smallT (readsOf all o) = true) (hsize : a.tmps.size = nt) (hreads : ∀ t ∈ readsOf all o, Rel E (T.get .bad (pa t) r) (a.tmps.getD t undef)) (s : Sim w0 E h w)
    {K : Act → World → Prop} {Q : Exit → Act → World → Prop} (hp : PostO w0 E o a K Q ((dopC P nt all o).run call r h)) : wpOpIn (Wd rd) 0 P all Q i K a w := by
  obtain ⟨hd, hs⟩ := hfine
  have k : RegRel0 E nt (trimR r (readsOf all o)) a := ⟨hsize, fun t ht => by
    rw [trimR_get hs ht]
    by_cases hm : t ∈ readsOf all o
    · rw [if_pos hm]; exact hreads t hm
    · rw [if_neg hm]; simp [Rel]⟩
  unfold dopC at hp
  rw [show (dstFine nt o.dst && smallT (readsOf all o)) = true from by rw [hd, hs]; rfl] at hp
  simp only [cond_true] at hp
  have wanted : PostO w0 E o a K Q ((cop P o).run call (trimR r (readsOf all o)) h) → Region.wanted o (yielded all a.tmps) = true → wpOpIn (Wd rd) 0 P all Q i K a w := by
    intro h1 hw
    simp only [wpOpIn, hi, hw, if_true]
    cases hr : (cop P o).run call (trimR r (readsOf all o)) h with
    | fail => rw [hr] at h1; exact h1.elim
    | val v h' => rw [hr] at h1; exact cop_sound hN hcall hbody hr k s h1
    | pan v h' => rw [hr] at h1; exact cop_pan hN hcall h1.1 hr k s h1.2
  have unwanted : PostO w0 E o a K Q (.val (.tuple []) h) → Region.wanted o (yielded all a.tmps) = false → wpOpIn (Wd rd) 0 P all Q i K a w := by
    intro h1 hw
    simp only [wpOpIn, hi, hw, Bool.false_eq_true, if_false]
    exact ⟨fun _ _ => trivial, h1 E undef w (Env.le.refl E) (by simp only [Rel]; exact ⟨#[], rfl, rfl⟩) s⟩
  cases hg : o.guard with
  | none =>
    rw [hg] at hp
    exact wanted hp (by simp [Region.wanted, hg])
  | some jw =>
    obtain ⟨j, want⟩ := jw
    rw [hg] at hp
    simp only at hp
    cases hj : all[j]? with
    | none => rw [hj] at hp; exact hp.elim
    | some g =>
      rw [hj] at hp
      simp only at hp
      cases hgd : g.dst with
      | none => rw [hgd] at hp; exact hp.elim
      | some d =>
        rw [hgd] at hp
        simp only at hp
        cases hc : (Nat.blt d nt && Nat.ble d top) with
        | false => rw [hc] at hp; exact hp.elim
        | true =>
          rw [hc] at hp
          simp only [cond_true, dopRun, evTmp] at hp
          simp only [Bool.and_eq_true, Nat.blt_eq, Nat.ble_eq] at hc
          obtain ⟨g1, g2⟩ := guard_sound k hj hgd hc.1 hc.2
          cases hv : T.get .bad (pa d) (trimR r (readsOf all o)) <;> rw [hv] at hp <;> simp only at hp <;> try (exact hp.elim)
          · rename_i b
            have hy := g1 b hv
            cases hb : (bif want then b else !b) with
            | true =>
              rw [hb] at hp
              simp only [cond_true] at hp
              refine wanted hp ?_
              simp only [Region.wanted, hg, hy]
              cases want <;> cases b <;> simp_all
            | false =>
              rw [hb] at hp
              simp only [cond_false] at hp
              refine unwanted hp ?_
              simp only [Region.wanted, hg, hy]
              cases want <;> cases b <;> simp_all
          · rename_i vs
            have hy := g2 vs hv
            refine unwanted hp ?_
            simp only [Region.wanted, hg, hy]
            rfl
theorem dop_sound {rd : Option Nat} {w0 : Fr} {E : Env} {h h' : Heap} {w : World} {call : CallF} (hN : NamesOk P) (hcall : CallOk P call) (hbody : CallBody P call) {all : Array Oper} {i : Nat} {o : Oper} (hi : all[i]? = some o) {nt : Nat} {r : Regs} {a : Act} {v : V}
    (he : (dopC P nt all o).run call r h = .val v h') (hsize : a.tmps.size = nt) (hreads : ∀ t ∈ readsOf all o, Rel E (T.get .bad (pa t) r) (a.tmps.getD t undef)) (s : Sim w0 E h w)
    {K : Act → World → Prop} {Q : Exit → Act → World → Prop} (hK : ∀ E' x w', E.le E' → Rel E' v x → Sim w0 E' h' w' → K (a.put o.dst x) w') : wpOpIn (Wd rd) 0 P all Q i K a w :=
  dop_post hN hcall hbody hi (dopC_fine he) hsize hreads s (by rw [he]; exact hK)
theorem dop_pan {rd : Option Nat} {w0 : Fr} {E : Env} {h h' : Heap} {w : World} {call : CallF} (hN : NamesOk P) (hcall : CallOk P call) (hbody : CallBody P call) {all : Array Oper} {i : Nat} {o : Oper} (hi : all[i]? = some o) {nt : Nat} {r : Regs} {a : Act} {v : V}
    (he : (dopC P nt all o).run call r h = .pan v h') (hm : mayPan o.op = true) (hsize : a.tmps.size = nt) (hreads : ∀ t ∈ readsOf all o, Rel E (T.get .bad (pa t) r) (a.tmps.getD t undef)) (s : Sim w0 E h w)
    {K : Act → World → Prop} {Q : Exit → Act → World → Prop} (hQ : ∀ E' x w', E.le E' → Rel E' v x → Sim w0 E' h' w' → Q (.panic (panic1 x)) a w') : wpOpIn (Wd rd) 0 P all Q i K a w :=
  dop_post hN hcall hbody hi (dopC_fine' he) hsize hreads s (by rw [he]; exact ⟨hm, hQ⟩)
theorem dop_quiet {nt : Nat} {all : Array Oper} {o : Oper} {call : CallF} {r : Regs} {h h' : Heap} {v : V} (hq : isEff P o.op = false) (he : (dopC P nt all o).run call r h = .val v h') :
    h' = h ∧ (looks o.op = false → ∀ H, (dopC P nt all o).run call r H = .val v H) := by
  obtain ⟨hd, hs⟩ := dopC_fine he
  have e0 : (dstFine nt o.dst && smallT (readsOf all o)) = true := by rw [hd, hs]; rfl
  have key : dopC P nt all o = (match o.guard with
    | none => ⟨dopRun none (cop P o) (readsOf all o)⟩
    | some (j, want) => match all[j]? with
      | some g => match g.dst with
        | some d => bif Nat.blt d nt && Nat.ble d top then ⟨dopRun (some (evTmp (pa d), want)) (cop P o) (readsOf all o)⟩ else OpC.none
        | none => OpC.none
      | none => OpC.none) := by
    unfold dopC; rw [e0]; rfl
  rw [key] at he ⊢
  cases hg : o.guard with
  | none =>
    rw [hg] at he
    exact ⟨cop_quiet hq he, fun hl H => cop_pure hq hl he H⟩
  | some jw =>
    obtain ⟨j, want⟩ := jw
    rw [hg] at he
    simp only at he ⊢
    cases hj : all[j]? with
    | none => rw [hj] at he; simp [OpC.none] at he
    | some g =>
      rw [hj] at he
      simp only at he ⊢
      cases hgd : g.dst with
      | none => rw [hgd] at he; simp [OpC.none] at he
      | some d =>
        rw [hgd] at he
        simp only at he ⊢
        cases hc : (Nat.blt d nt && Nat.ble d top) with
        | false => rw [hc] at he; simp [OpC.none] at he
        | true =>
          rw [hc] at he
          simp only [cond_true, dopRun] at he ⊢
          cases hv : (evTmp (pa d)).run (trimR r (readsOf all o)) <;> rw [hv] at he <;> simp only at he ⊢ <;> try (cases he; done)
          · rename_i b
            cases hb : (bif want then b else !b) <;> rw [hb] at he <;> simp only [cond_true, cond_false] at he ⊢
            · simp only [OR.val.injEq] at he ⊢
              exact ⟨he.2.symm, fun _ H => ⟨he.1, trivial⟩⟩
            · exact ⟨cop_quiet hq he, fun hl H => cop_pure hq hl he H⟩
          · simp only [OR.val.injEq] at he ⊢
            exact ⟨he.2.symm, fun _ H => ⟨he.1, trivial⟩⟩
theorem askAgain_mem {op : OpC} {call : CallF} {es : List Ent} {hf : Heap} {r : Regs} {v : V} : ∀ {ss : List Nat}, askAgain op call es hf r v ss = true → ∀ s ∈ ss, ∃ h', op.run call r (heapAt es hf s) = .val v h'
  | [], _, s, h => by simp at h
  | s' :: ss, he, s, hm => by
    simp only [askAgain, Bool.and_eq_true] at he
    simp only [List.mem_cons] at hm
    rcases hm with rfl | hm
    · have h1 := he.1
      cases hr : op.run call r (heapAt es hf s) with
      | fail => rw [hr] at h1; cases h1
      | pan _ _ => rw [hr] at h1; cases h1
      | val v' h' =>
        rw [hr] at h1
        rw [eqV_eq h1]
        exact ⟨h', rfl⟩
    · exact askAgain_mem he.2 s hm
theorem asksC_spec {nt : Nat} {all : Array Oper} {masks poss starts : List Nat} {call : CallF} {es : List Ent} {hf : Heap} : ∀ {l : List Oper} {i : Nat}, (asksC P nt all masks poss starts i l).run call es hf = true →
    ∀ j o, l[j]? = some o → looks o.op = true → isEff P o.op = false → ∀ e, es[posOf poss (i + j)]? = some e → ∀ s ∈ starts, mayStand P masks all.toList poss (i + j) ((masks[i + j]?).getD 0) s = true → ∃ h', (dopC P nt all o).run call e.r (heapAt es hf s) = .val e.v h'
  | [], _, _, j, o, ho, _, _ => by simp at ho
  | o' :: os, i, he, j, o, ho, hl, hq => by
    simp only [asksC] at he
    cases j with
    | zero =>
      simp only [List.getElem?_cons_zero, Option.some.injEq] at ho
      subst ho
      rw [hl, hq] at he
      simp only [Bool.not_false, Bool.and_true, cond_true, Bool.and_eq_true, askOne] at he
      have h1 := he.1
      intro e hes s hs hm
      · rw [Nat.add_zero] at hes
        rw [hes] at h1
        exact askAgain_mem h1 s (List.mem_filter.2 ⟨hs, by simpa using hm⟩)
    | succ j =>
      have rest : (asksC P nt all masks poss starts (i + 1) os).run call es hf = true := by
        cases hc : (looks o'.op && !isEff P o'.op) with
        | false => rw [hc] at he; exact he
        | true => rw [hc] at he; simp only [cond_true, Bool.and_eq_true] at he; exact he.2
      have := asksC_spec rest j o (by simpa using ho) hl hq
      rw [show i + (j + 1) = i + 1 + j from by omega]
      exact this
theorem levelStarts_mem {poss : List Nat} : ∀ {l : List Oper} {i j : Nat} {o : Oper}, l[j]? = some o → isChain P o = true → posOf poss (i + j) ∈ levelStarts P poss i l
  | [], _, j, o, h, _ => by simp at h
  | o' :: os, i, j, o, h, he => by
    simp only [levelStarts]
    cases j with
    | zero =>
      simp only [List.getElem?_cons_zero, Option.some.injEq] at h
      subst h
      rw [he]
      simp
    | succ j =>
      have := levelStarts_mem (poss := poss) (i := i + 1) (by simpa using h) he
      rw [show i + (j + 1) = i + 1 + j from by omega]
      cases isChain P o' with
      | true => simp [this]
      | false => exact this
theorem levelStarts_end {poss : List Nat} : ∀ {l : List Oper} {i : Nat}, i + l.length ∈ levelStarts P poss i l
  | [], _ => by simp [levelStarts]
  | o :: os, i => by
    have := levelStarts_end (poss := poss) (l := os) (i := i + 1)
    simp only [levelStarts, List.length_cons]
    rw [show i + (os.length + 1) = i + 1 + os.length from by omega]
    cases isChain P o with
    | true => simp [this]
    | false => exact this
theorem levelStarts_spec {poss : List Nat} : ∀ {l : List Oper} {i s : Nat}, s ∈ levelStarts P poss i l → s = i + l.length ∨ ∃ j o, l[j]? = some o ∧ isChain P o = true ∧ s = posOf poss (i + j)
  | [], i, s, h => by simp only [levelStarts, List.mem_singleton] at h; exact .inl (by simpa using h)
  | o :: os, i, s, h => by
    simp only [levelStarts] at h
    have rest : s ∈ levelStarts P poss (i + 1) os → s = i + (o :: os).length ∨ ∃ j o', (o :: os)[j]? = some o' ∧ isChain P o' = true ∧ s = posOf poss (i + j) := by
      intro h
      rcases levelStarts_spec h with h | ⟨j, o', h1, h2, h3⟩
      · exact .inl (by simp only [List.length_cons]; omega)
      · exact .inr ⟨j + 1, o', by simpa using h1, h2, by rw [h3]; congr 1; omega⟩
    cases hc : isChain P o with
    | true =>
      rw [hc] at h
      simp only [cond_true, List.mem_cons] at h
      rcases h with h | h
      · exact .inr ⟨0, o, rfl, hc, h⟩
      · exact rest h
    | false => rw [hc] at h; exact rest h
theorem cop_shape {o : Oper} {call : CallF} {r : Regs} {h h' : Heap} {v : V} (ha : isAlloc o = true) (he : (cop P o).run call r h = .val v h') : ∃ k, h' = h.new k ∧ True := by
  have cells : ∀ {vs : List V} {h1 : Heap}, newCells h vs = some h1 → ∃ k, h1 = h.new k ∧ True := by
    intro vs h1 he
    unfold newCells at he
    obtain ⟨hc, he⟩ := cond_some he
    cases he
    exact ⟨_, rfl, trivial⟩
  obtain ⟨dst, op, type, pos, after, guard⟩ := o
  cases op <;> simp only [isAlloc] at ha <;> try (cases ha; done)
  all_goals simp only [cop] at he
  case alloc t =>
    cases ht : tiOf P t with
    | none => rw [ht] at he; simp [OpC.none] at he
    | some ti =>
      rw [ht] at he
      simp only at he
      cases hz : ti.zero with
      | none => rw [hz] at he; simp [OpC.none] at he
      | some z =>
        rw [hz] at he
        simp only at he
        cases hn : newCells h z.cells with
        | none => rw [hn] at he; cases he
        | some h1 =>
          rw [hn] at he
          simp only [orHeap, OR.val.injEq] at he; obtain ⟨_, rfl⟩ := he
          exact cells hn
  case box t x =>
    obtain ⟨hg, he⟩ := cond_val he
    cases hn : newCells h ((evC x).run r).cells with
    | none => rw [hn] at he; cases he
    | some h1 =>
      rw [hn] at he
      simp only [orHeap, OR.val.injEq] at he; obtain ⟨_, rfl⟩ := he
      exact cells hn
  case buildSlice t n ps =>
    unfold buildSliceC at he
    cases ht : tiOf P t with
    | none => rw [ht] at he; cases he
    | some ti =>
      rw [ht] at he
      simp only at he
      cases hund : ti.und <;> rw [hund] at he <;> simp only at he <;> try (cases he; done)
      rename_i e
      cases hte : tiOf P e with
      | none => rw [hte] at he; cases he
      | some ei =>
        rw [hte] at he
        simp only at he
        cases hz : ei.zero with
        | none => rw [hz] at he; cases he
        | some z =>
          rw [hz] at he
          simp only at he
          cases hc : (Nat.ble (n * ei.size) 1000000 && Nat.beq z.cells.length ei.size) with
          | false => rw [hc] at he; cases he
          | true =>
            rw [hc] at he
            simp only [cond_true] at he
            cases hf : fillV (fun i => some (i * ei.size, ei.size)) (repeatV z.cells n) ((partsC ps.toList).run r) with
            | none => rw [hf] at he; cases he
            | some cs =>
              rw [hf] at he
              simp only at he
              cases hn : newCells h cs with
              | none => rw [hn] at he; cases he
              | some h1 =>
                rw [hn] at he
                simp only [OR.val.injEq] at he
                obtain ⟨_, rfl⟩ := he
                exact cells hn
  case makeMap t x =>
    cases x with
    | some _ => cases ha
    | none =>
      simp only [optC, makeMapC] at he
      cases ht : tiOf P t with
      | none => rw [ht] at he; cases he
      | some ti =>
        rw [ht] at he
        simp only at he
        cases hb : Nat.beq (nilKindD ti.und) 3 with
        | false => rw [hb] at he; cases he
        | true =>
          rw [hb] at he
          simp only [cond_true, makeMapV, newMap] at he
          simp only [OR.val.injEq] at he
          exact ⟨_, he.2.symm, trivial⟩
theorem isAlloc_eff {o : Oper} (ha : isAlloc o = true) : isEff P o.op = true := by
  obtain ⟨dst, op, type, pos, after, guard⟩ := o
  cases op <;> simp only [isAlloc] at ha <;> first | (cases ha; done) | rfl
theorem dop_split {nt : Nat} {all : Array Oper} {o : Oper} {call : CallF} {r : Regs} {h h' : Heap} {v : V} (he : (dopC P nt all o).run call r h = .val v h') :
    ((cop P o).run call (trimR r (readsOf all o)) h = .val v h' ∧ ∀ E a, RegRel0 E nt (trimR r (readsOf all o)) a → Region.wanted o (yielded all a.tmps) = true) ∨
    (h' = h ∧ ∀ H, (dopC P nt all o).run call r H = .val v H) := by
  obtain ⟨hd, hs⟩ := dopC_fine he
  have e0 : (dstFine nt o.dst && smallT (readsOf all o)) = true := by rw [hd, hs]; rfl
  have key : dopC P nt all o = (match o.guard with
    | none => ⟨dopRun none (cop P o) (readsOf all o)⟩
    | some (j, want) => match all[j]? with
      | some g => match g.dst with
        | some d => bif Nat.blt d nt && Nat.ble d top then ⟨dopRun (some (evTmp (pa d), want)) (cop P o) (readsOf all o)⟩ else OpC.none
        | none => OpC.none
      | none => OpC.none) := by
    unfold dopC; rw [e0]; rfl
  rw [key] at he ⊢
  cases hg : o.guard with
  | none =>
    rw [hg] at he
    exact .inl ⟨he, fun E a _ => by simp [Region.wanted, hg]⟩
  | some jw =>
    obtain ⟨j, want⟩ := jw
    rw [hg] at he
    simp only at he ⊢
    cases hj : all[j]? with
    | none => rw [hj] at he; simp [OpC.none] at he
    | some g =>
      rw [hj] at he
      simp only at he ⊢
      cases hgd : g.dst with
      | none => rw [hgd] at he; simp [OpC.none] at he
      | some d =>
        rw [hgd] at he
        simp only at he ⊢
        cases hc : (Nat.blt d nt && Nat.ble d top) with
        | false => rw [hc] at he; simp [OpC.none] at he
        | true =>
          rw [hc] at he
          simp only [cond_true, dopRun] at he ⊢
          have hc' := hc
          simp only [Bool.and_eq_true, Nat.blt_eq, Nat.ble_eq] at hc'
          cases hv : (evTmp (pa d)).run (trimR r (readsOf all o)) <;> rw [hv] at he <;> simp only at he ⊢ <;> try (cases he; done)
          · rename_i b
            cases hb : (bif want then b else !b) <;> rw [hb] at he <;> simp only [cond_true, cond_false] at he ⊢
            · simp only [OR.val.injEq] at he ⊢
              exact .inr ⟨he.2.symm, fun H => ⟨he.1, trivial⟩⟩
            · refine .inl ⟨he, fun E a k => ?_⟩
              obtain ⟨g1, _⟩ := guard_sound k hj hgd hc'.1 hc'.2
              have hy := g1 b hv
              simp only [Region.wanted, hg, hy]
              cases want <;> cases b <;> simp_all
          · simp only [OR.val.injEq] at he ⊢
            exact .inr ⟨he.2.symm, fun H => ⟨he.1, trivial⟩⟩
theorem dop_shape {nt : Nat} {all : Array Oper} {o : Oper} {call : CallF} {r : Regs} {h h' : Heap} {v : V} (ha : isAlloc o = true) (he : (dopC P nt all o).run call r h = .val v h') :
    (∃ k, h' = h.new k ∧ True) ∨ (h' = h ∧ ∀ H, (dopC P nt all o).run call r H = .val v H) := by
  rcases dop_split he with ⟨h1, _⟩ | h1
  · exact .inl (cop_shape ha h1)
  · exact .inr h1
theorem dop_link {rd : Option Nat} {F : Fr} {E : Env} {h h' H : Heap} {w : World} {call : CallF} {all : Array Oper} {i : Nat} {o : Oper} (hi : all[i]? = some o) (ha : isAlloc o = true) {nt : Nat} {r : Regs} {a : Act} {v : V}
    (he : (dopC P nt all o).run call r h = .val v h') (hsize : a.tmps.size = nt) (hreads : ∀ t ∈ readsOf all o, Rel E (T.get .bad (pa t) r) (a.tmps.getD t undef)) (s : Sim F E H w)
    (hmade : h'.next ≠ h.next) (hp : F.pend (pa h.next) = some (h'.get (pa h.next)))
    {K : Act → World → Prop} {Q : Exit → Act → World → Prop} (hK : ∀ E' x w', E.le E' → Rel E' v x → Sim (F.free (pa h.next)) E' H w' → K (a.put o.dst x) w') : wpOpIn (Wd rd) 0 P all Q i K a w := by
  obtain ⟨hd, hs⟩ := dopC_fine he
  have k : RegRel0 E nt (trimR r (readsOf all o)) a := ⟨hsize, fun t ht => by
    rw [trimR_get hs ht]
    by_cases hm : t ∈ readsOf all o
    · rw [if_pos hm]; exact hreads t hm
    · rw [if_neg hm]; simp [Rel]⟩
  obtain ⟨he', hw⟩ : (cop P o).run call (trimR r (readsOf all o)) h = .val v h' ∧ Region.wanted o (yielded all a.tmps) = true := by
    rcases dop_split he with ⟨h1, h2⟩ | ⟨h1, _⟩
    · exact ⟨h1, h2 E a k⟩
    · exact absurd (by rw [h1]) hmade
  obtain ⟨m, hx, kk, q1, q2, q3⟩ := cop_makes ha he' k
  simp only [wpOpIn, hi, hw, if_true]
  obtain ⟨X, ob, p1, p2⟩ := q3 w
  rw [q1, Heap.get_new, if_pos rfl] at hp
  have hput : E.put (pa h.next) ⟨w.heap.size, 0, 0⟩ (pa h.next) = some ⟨w.heap.size, 0, 0⟩ := by unfold Env.put; rw [if_pos rfl]
  have hle : E.le (E.put (pa h.next) ⟨w.heap.size, 0, 0⟩) := Env.le_put (s.pen _ _ hp).2.1
  obtain ⟨r1, r2⟩ := p2 _ hle hput
  have hsz : F.w.heap.size ≤ w.heap.size := s.frame.size
  obtain ⟨_, hl2⟩ := s.link hp (o := ob) (r2 _ hsz)
  refine ⟨fun _ _ => trivial, ?_⟩
  rw [semAt_wd (by intro c h; have := ha; unfold isAlloc at this; rw [h] at this; cases this), hx, Sem.run_bind, p1]
  exact hK _ X _ hle r1 hl2
end
end Go.Proofs.YtigflhomnoledaaGreatDoor.Am
namespace Go.Proofs.YtigflhomnoledaaGreatDoor.Am
variable [Lay]
open Go Go.RowKit
theorem countP_lt {α : Type} (p q : α → Bool) : ∀ (l : List α), (∀ x ∈ l, q x = true → p x = true) → (∃ x ∈ l, p x = true ∧ q x = false) → l.countP q < l.countP p
  | [], _, h => by obtain ⟨x, hx, _⟩ := h; simp at hx
  | a :: l, h1, h2 => by
    have hle : l.countP q ≤ l.countP p := List.countP_mono_left fun x hx => h1 x (by simp [hx])
    obtain ⟨x, hx, hp, hq⟩ := h2
    simp only [List.mem_cons] at hx
    rcases hx with rfl | hx
    · rw [List.countP_cons, List.countP_cons, hp, hq]
      simp
      omega
    · have ih := countP_lt p q l (fun y hy => h1 y (by simp [hy])) ⟨x, hx, hp, hq⟩
      have ha := h1 a (by simp)
      rw [List.countP_cons, List.countP_cons]
      cases hqa : q a with
      | true => rw [ha hqa]; simp; omega
      | false => simp; omega
theorem binds_eq (e : Edge) : Region.binds .any e = bindsB e := by
  unfold Region.binds bindsB
  cases e.ground <;> rfl
section
variable {P : Program}
theorem permAt_get {order : List Nat} : ∀ {ps : List Nat} {k j p : Nat}, permAt order k ps = true → ps[j]? = some p → order[p]? = some (k + j)
  | [], _, j, p, _, h => by simp at h
  | q :: ps, k, j, p, hp, h => by
    simp only [permAt, Bool.and_eq_true] at hp
    cases j with
    | zero =>
      simp only [List.getElem?_cons_zero, Option.some.injEq] at h
      subst h
      have h1 := hp.1
      cases hq : order[q]? with
      | none => rw [hq] at h1; cases h1
      | some i => rw [hq] at h1; rw [Nat.beq_eq] at h1; rw [h1]; rfl
    | succ j =>
      have := permAt_get hp.2 (show ps[j]? = some p by simpa using h)
      rw [this]
      congr 1
      omega
theorem opsAt_get {ops : Array Oper} : ∀ {order : List Nat} {p i : Nat} {o : Oper}, order[p]? = some i → ops[i]? = some o → (opsAt ops order)[p]? = some o
  | [], p, i, o, h, _ => by simp at h
  | x :: xs, p, i, o, h, ho => by
    cases p with
    | zero =>
      simp only [List.getElem?_cons_zero, Option.some.injEq] at h
      subst h
      simp [opsAt, ho]
    | succ p => simpa [opsAt] using opsAt_get (show xs[p]? = some i by simpa using h) ho
theorem opsAt_length {ops : Array Oper} : ∀ {order : List Nat}, (opsAt ops order).length = order.length
  | [] => rfl
  | x :: xs => by simp [opsAt, opsAt_length (order := xs)]
structure Cert (P : Program) (nt : Nat) (ops : Array Oper) (calls : Nat → CallF) (es : List Ent) (r0 : Regs) (h0 : Heap) (rf : Regs) (hf : Heap) (starts : List Nat) (order poss : List Nat) (N M : Nat) (lit : Bool) : Prop where
  len : es.length = N
  nle : N ≤ ops.size
  nm : N ≤ M
  posLt : ∀ k, k < ops.size → posOf poss k < ops.size ∧ order[posOf poss k]? = some k
  ordAt : ∀ p, p < ops.size → ∃ i, i < ops.size ∧ posOf poss i = p
  h0 : heapAt es hf 0 = h0
  r0 : regAt es rf 0 = r0
  step : ∀ i o, ops[i]? = some o → posOf poss i < N → ∃ e, es[posOf poss i]? = some e ∧ (dopC P nt ops o).run (calls i) e.r e.h = .val e.v (heapAt es hf (posOf poss i + 1)) ∧ regAt es rf (posOf poss i + 1) = (putC o.dst).run e.r e.v
  fine : ∀ i o, ops[i]? = some o → ∃ mi, (masksFrom [] ops.toList)[i]? = some mi ∧ onFine i o = true ∧ (posOf poss i < M →
    ∀ k ok, ops[k]? = some ok → posOf poss k < M → ∃ mk, (masksFrom [] ops.toList)[k]? = some mk ∧ pairFine i mi (readsOf ops o) o.dst k mk ok (Nat.blt (posOf poss k) (posOf poss i)) = true ∧ (isEff P o.op = true → isChain P ok = true → posOf poss k < posOf poss i → bitB mi k = true ∨ (lit = true ∧ isIns o = true ∧ isIns ok = true)))
  ends : N ∈ starts
  mem : ∀ j o, ops[j]? = some o → isChain P o = true → posOf poss j ∈ starts
  sts : ∀ s ∈ starts, (s = ops.size ∨ (s = N ∧ M = N)) ∨ ∃ k o, ops[k]? = some o ∧ isChain P o = true ∧ s = posOf poss k
  ask : ∀ j o, ops[j]? = some o → looks o.op = true → isEff P o.op = false → posOf poss j < N → ∃ e, es[posOf poss j]? = some e ∧ ∀ s ∈ starts,
    mayStand P (masksFrom [] ops.toList) ops.toList poss j (((masksFrom [] ops.toList)[j]?).getD 0) s = true → ∃ c h', (CallOk P c ∧ CallBody P c) ∧ (dopC P nt ops o).run c e.r (heapAt es hf s) = .val e.v h'
  tail : M < ops.size → M = N ∧ ∀ k ok mk, ops[k]? = some ok → N ≤ posOf poss k → (masksFrom [] ops.toList)[k]? = some mk → ∀ j, j < ops.size → posOf poss j < N → bitB mk j = true
  stop : N < ops.size → ops.size ≤ M → ∃ i0 o0 m0, ops[i0]? = some o0 ∧ posOf poss i0 = N ∧ mayPan o0.op = true ∧ (masksFrom [] ops.toList)[i0]? = some m0 ∧
    (∀ k ok mk, ops[k]? = some ok → N < posOf poss k → (masksFrom [] ops.toList)[k]? = some mk → bitB mk i0 = true) ∧
    (∀ k ok, ops[k]? = some ok → isAlloc ok = true → posOf poss k < N → bitB m0 k = true) ∧ ∃ v h', (dopC P nt ops o0).run (calls i0) rf hf = .pan v h'
theorem mayPan_chain {o : Oper} (h : mayPan o.op = true) : isEff P o.op = true ∧ isAlloc o = false := by
  obtain ⟨dst, op, type, pos, after, guard⟩ := o
  cases op <;> simp only [mayPan] at h <;> try (cases h; done)
  · rename_i c
    obtain ⟨callee, args, types⟩ := c
    cases callee <;> simp only at h <;> try (cases h; done)
    exact ⟨rfl, rfl⟩
  · exact ⟨rfl, rfl⟩
variable {nt : Nat} {ops : Array Oper} {call : CallF} {calls : Nat → CallF} {es : List Ent} {r0 : Regs} {h0 : Heap} {rf : Regs} {hf : Heap} {starts : List Nat} {order poss : List Nat} {N M : Nat} {lit : Bool}
theorem Cert.posInj (C : Cert P nt ops calls es r0 h0 rf hf starts order poss N M lit) {k k' : Nat} (h1 : k < ops.size) (h2 : k' < ops.size) (he : posOf poss k = posOf poss k') : k = k' := by
  have a := (C.posLt k h1).2
  have b := (C.posLt k' h2).2
  rw [he, b] at a
  cases a
  rfl
theorem drawFine_spec {ops : Array Oper} {poss : List Nat} (hf : drawFine P ops poss = true) : ∀ i o, ops[i]? = some o → ∃ mi, (masksFrom [] ops.toList)[i]? = some mi ∧ onFine i o = true ∧
    ∀ k ok, ops[k]? = some ok → ∃ mk, (masksFrom [] ops.toList)[k]? = some mk ∧ pairFine i mi (readsOf ops o) o.dst k mk ok (Nat.blt (posOf poss k) (posOf poss i)) = true ∧ (isEff P o.op = true → isChain P ok = true → posOf poss k < posOf poss i → bitB mi k = true) := by
  intro i o hi
  unfold drawFine at hf
  obtain ⟨mi, h1, h2⟩ := zipAll_get hf i o (by simpa using hi)
  simp only [Nat.zero_add, Bool.and_eq_true] at h2
  refine ⟨mi, h1, h2.1, fun k ok hk => ?_⟩
  obtain ⟨mk, k1, k2⟩ := zipAll_get h2.2 k ok (by simpa using hk)
  simp only [Nat.zero_add, Bool.and_eq_true] at k2
  refine ⟨mk, k1, k2.1, fun e1 e2 hlt => ?_⟩
  have k3 := k2.2
  rw [e1, e2, Bool.true_and, show Nat.blt (posOf poss k) (posOf poss i) = true from by rw [Nat.blt_eq]; exact hlt] at k3
  exact k3
theorem Cert.regs (C : Cert P nt ops calls es r0 h0 rf hf starts order poss N M lit) : ∀ p, p ≤ N → ∀ t, t ≤ top →
    (∃ k o e, posOf poss k < p ∧ ops[k]? = some o ∧ o.dst = some t ∧ es[posOf poss k]? = some e ∧ T.get .bad (pa t) (regAt es rf p) = e.v) ∨
    ((∀ k o, posOf poss k < p → ops[k]? = some o → o.dst ≠ some t) ∧ T.get .bad (pa t) (regAt es rf p) = T.get .bad (pa t) r0)
  | 0, _, t, ht => .inr ⟨fun k o h => by omega, by rw [C.r0]⟩
  | p + 1, hi, t, ht => by
    obtain ⟨i, hlt, hpi⟩ := C.ordAt p (by have := C.nle; omega)
    have hio : ops[i]? = some ops[i] := Array.getElem?_eq_getElem hlt
    obtain ⟨e, h1, h2, h3⟩ := C.step i ops[i] hio (by omega)
    rw [hpi] at h1 h2 h3
    have hreg : regAt es rf p = e.r := by simp [regAt, h1]
    have hput := get_put_dst (r := e.r) (v := e.v) (dopC_fine h2).1 ht
    rw [h3, hput]
    by_cases hd : ops[i].dst = some t
    · rw [if_pos hd]
      exact .inl ⟨i, _, e, by omega, hio, hd, by rw [hpi]; exact h1, rfl⟩
    · rw [if_neg hd, ← hreg]
      rcases Cert.regs C p (by omega) t ht with ⟨k, o, e', q1, q2, q3, q4, q5⟩ | ⟨q1, q2⟩
      · exact .inl ⟨k, o, e', by omega, q2, q3, q4, q5⟩
      · refine .inr ⟨fun k o hk ho => ?_, q2⟩
        by_cases hki : k = i
        · subst hki; rw [hio] at ho; cases ho; exact hd
        · refine q1 k o ?_ ho
          have hkl := (Array.getElem?_eq_some_iff.1 ho).1
          have : posOf poss k ≠ p := fun e => hki (C.posInj hkl hlt (by rw [e, hpi]))
          omega
theorem Cert.dsl (C : Cert P nt ops calls es r0 h0 rf hf starts order poss N M lit) : ∀ p, p ≤ N → T.get .bad dslot (regAt es rf p) = T.get .bad dslot r0
  | 0, _ => by rw [C.r0]
  | p + 1, hi => by
    obtain ⟨i, hlt, hpi⟩ := C.ordAt p (by have := C.nle; omega)
    have hio : ops[i]? = some ops[i] := Array.getElem?_eq_getElem hlt
    obtain ⟨e, h1, h2, h3⟩ := C.step i ops[i] hio (by omega)
    rw [hpi] at h1 h2 h3
    have hreg : regAt es rf p = e.r := by simp [regAt, h1]
    have hd := (dopC_fine h2).1
    rw [h3, ← Cert.dsl C p (by omega), hreg]
    cases hdst : ops[i].dst with
    | none => rfl
    | some d =>
      rw [hdst] at hd
      simp only [dstFine, Bool.and_eq_true, Nat.ble_eq] at hd
      simp only [putC]
      rw [T.get_put, if_neg (pa_dslot hd.2)]
def nameAt (es : List Ent) (hf : Heap) (poss : List Nat) (k : Nat) : Pa := pa (heapAt es hf (posOf poss k)).next
noncomputable def blkAt (es : List Ent) (hf : Heap) (poss : List Nat) (k : Nat) : Blk := (heapAt es hf (posOf poss k + 1)).get (nameAt es hf poss k)
def Made (es : List Ent) (hf : Heap) (poss : List Nat) (k : Nat) : Prop := (heapAt es hf (posOf poss k + 1)).next ≠ (heapAt es hf (posOf poss k)).next
def Held (ops : Array Oper) (es : List Ent) (hf : Heap) (poss : List Nat) (listed : Array Bool) (s k : Nat) : Prop :=
  ∃ o, ops[k]? = some o ∧ (isAlloc o = true ∧ Made es hf poss k) ∧ ¬ listed.getD k false = true ∧ posOf poss k < s
structure Holds (w0 F : Fr) (es : List Ent) (hf : Heap) (poss : List Nat) (D : Nat → Prop) : Prop where
  w : F.w = w0.w
  old : ∀ b, (∀ k, D k → nameAt es hf poss k ≠ b) → F.pend b = w0.pend b
  new : ∀ k, D k → F.pend (nameAt es hf poss k) = some (blkAt es hf poss k) ∧ w0.pend (nameAt es hf poss k) = none
  inj : ∀ k k', D k → D k' → nameAt es hf poss k = nameAt es hf poss k' → k = k'
theorem Holds.congr {w0 F : Fr} {D D' : Nat → Prop} (H : Holds w0 F es hf poss D) (h : ∀ k, D' k ↔ D k) : Holds w0 F es hf poss D' :=
  ⟨H.w, fun b hb => H.old b fun k hk => hb k ((h k).2 hk), fun k hk => H.new k ((h k).1 hk), fun k k' hk hk' => H.inj k k' ((h k).1 hk) ((h k').1 hk')⟩
theorem Holds.none {w0 F : Fr} {D : Nat → Prop} (H : Holds w0 F es hf poss D) (h : ∀ k, ¬ D k) : F = w0 := by
  have : F.pend = w0.pend := funext fun b => H.old b fun k hk => absurd hk (h k)
  cases F; cases w0
  have hw := H.w
  simp only at this hw
  rw [this, hw]
theorem Cert.advance (C : Cert P nt ops calls es r0 h0 rf hf starts order poss N M lit) {w0 : Fr} {listed : Array Bool} {E : Env} {w : World} : ∀ (d q : Nat), q + d = N → (∀ k o, ops[k]? = some o → isAlloc o = true → q ≤ posOf poss k → ¬ listed.getD k false = true) →
    ∀ F, Holds w0 F es hf poss (Held ops es hf poss listed q) → Sim F E (heapAt es hf q) w →
    ∃ s F', s ∈ starts ∧ q ≤ s ∧ s ≤ N ∧ (∀ k o, ops[k]? = some o → isChain P o = true → q ≤ posOf poss k → s ≤ posOf poss k) ∧ Holds w0 F' es hf poss (Held ops es hf poss listed s) ∧ Sim F' E (heapAt es hf s) w
  | 0, q, hq, _, F, H, S => by
    have : q = N := by omega
    subst this
    exact ⟨q, F, C.ends, Nat.le_refl _, Nat.le_refl _, fun k o _ _ h => h, H, S⟩
  | d + 1, q, hq, hnl, F, H, S => by
    obtain ⟨i, hlt, hpi⟩ := C.ordAt q (by have := C.nle; omega)
    have hio : ops[i]? = some ops[i] := Array.getElem?_eq_getElem hlt
    cases hch : isChain P ops[i] with
    | true => exact ⟨q, F, by rw [← hpi]; exact C.mem i _ hio hch, Nat.le_refl _, by omega, fun k o _ _ h => h, H, S⟩
    | false =>
      obtain ⟨e, h1, h2, h3⟩ := C.step i ops[i] hio (by omega)
      rw [hpi] at h1 h2
      have hhq : heapAt es hf q = e.h := by simp [heapAt, h1]
      have only : ∀ k o, ops[k]? = some o → posOf poss k = q → k = i := fun k o hk hp => C.posInj (Array.getElem?_eq_some_iff.1 hk).1 hlt (by rw [hp, hpi])
      have fin : ∀ F', Holds w0 F' es hf poss (Held ops es hf poss listed (q + 1)) → Sim F' E (heapAt es hf (q + 1)) w →
          ∃ s F', s ∈ starts ∧ q ≤ s ∧ s ≤ N ∧ (∀ k o, ops[k]? = some o → isChain P o = true → q ≤ posOf poss k → s ≤ posOf poss k) ∧ Holds w0 F' es hf poss (Held ops es hf poss listed s) ∧ Sim F' E (heapAt es hf s) w := by
        intro F' H' S'
        obtain ⟨s, F2, g1, g2, g3, g4, g5, g6⟩ := Cert.advance C d (q + 1) (by omega) (fun k o h1 h2 h3 => hnl k o h1 h2 (by omega)) F' H' S'
        refine ⟨s, F2, g1, by omega, g3, fun k o hk hc hp => g4 k o hk hc ?_, g5, g6⟩
        by_cases hpk : posOf poss k = q
        · have := only k o hk hpk
          subst this
          rw [hio] at hk; cases hk
          rw [hch] at hc; cases hc
        · omega
      have pass : heapAt es hf (q + 1) = e.h → (isAlloc ops[i] = true → ¬ Made es hf poss i) → ∃ s F', s ∈ starts ∧ q ≤ s ∧ s ≤ N ∧ (∀ k o, ops[k]? = some o → isChain P o = true → q ≤ posOf poss k → s ≤ posOf poss k) ∧ Holds w0 F' es hf poss (Held ops es hf poss listed s) ∧ Sim F' E (heapAt es hf s) w := by
        intro hsame hnm
        rw [← hhq] at hsame
        refine fin F (H.congr fun k => ⟨?_, ?_⟩) (by rw [hsame]; exact S)
        · rintro ⟨o, q1, q2, q3, q4⟩
          refine ⟨o, q1, q2, q3, ?_⟩
          have : posOf poss k ≠ q := fun e => by
            have := only k o q1 e
            subst this
            rw [hio] at q1; cases q1
            exact hnm q2.1 q2.2
          omega
        · rintro ⟨o, q1, q2, q3, q4⟩
          exact ⟨o, q1, q2, q3, by omega⟩
      cases ha : isAlloc ops[i] with
      | true =>
       rcases dop_shape ha h2 with ⟨kk, k1, k2⟩ | ⟨k1, _⟩
       ·
        have hs := S.hold kk
        have hn : nameAt es hf poss i = pa (heapAt es hf q).next := by unfold nameAt; rw [hpi]
        have hb : blkAt es hf poss i = kk := by
          unfold blkAt
          rw [hn, hpi, k1, hhq, Heap.get_new, if_pos rfl]
        rw [hhq, ← k1] at hs
        have hmd : Made es hf poss i := by
          unfold Made
          rw [hpi, k1, hhq]
          exact Nat.succ_ne_self _
        have hni : ¬ listed.getD i false = true := hnl i _ hio ha (by omega)
        have cases' : ∀ k, Held ops es hf poss listed (q + 1) k → k = i ∨ Held ops es hf poss listed q k := by
          rintro k ⟨o, q1, q2, q3, q4⟩
          by_cases hpk : posOf poss k = q
          · exact .inl (only k o q1 hpk)
          · exact .inr ⟨o, q1, q2, q3, by omega⟩
        have fresh : ∀ b kb, F.pend b = some kb → b ≠ nameAt es hf poss i := by
          intro b kb hbk heq
          obtain ⟨_, _, j, j1, j2⟩ := S.pen b kb hbk
          rw [heq, hn] at j2
          rw [hhq] at j1 j2
          have := pa_inj j2
          omega
        have inF : ∀ b, b ≠ nameAt es hf poss i → (F.hold (pa e.h.next) kk).pend b = F.pend b := by
          intro b hbne
          rw [hn, hhq] at hbne
          simp only [Fr.hold, if_neg hbne]
        have atF : (F.hold (pa e.h.next) kk).pend (nameAt es hf poss i) = some kk := by
          rw [hn, hhq]
          simp only [Fr.hold, if_true]
        have ne : ∀ k, Held ops es hf poss listed q k → nameAt es hf poss k ≠ nameAt es hf poss i := fun k hk => fresh _ _ (H.new k hk).1
        refine fin (F.hold (pa e.h.next) kk) ⟨H.w, fun b hbk => ?_, fun k hk => ?_, fun k k' hk hk' he => ?_⟩ hs
        · have hbi : b ≠ nameAt es hf poss i := fun e => hbk i ⟨_, hio, ⟨ha, hmd⟩, hni, by omega⟩ e.symm
          rw [inF b hbi]
          exact H.old b fun k hk => hbk k (by obtain ⟨o, q1, q2, q3, q4⟩ := hk; exact ⟨o, q1, q2, q3, by omega⟩)
        · rcases cases' k hk with rfl | hk
          · refine ⟨by rw [atF, hb], ?_⟩
            cases hp : w0.pend (nameAt es hf poss k) with
            | none => rfl
            | some kb =>
              exfalso
              have := H.old (nameAt es hf poss k) fun k' hk' => ne k' hk'
              rw [hp] at this
              exact fresh _ _ this rfl
          · rw [inF _ (ne k hk)]
            exact H.new k hk
        · rcases cases' k hk with rfl | hk <;> rcases cases' k' hk' with rfl | hk'
          · rfl
          · exact absurd he.symm (ne k' hk')
          · exact absurd he (ne k hk)
          · exact H.inj k k' hk hk' he
       · refine pass k1 fun _ hm => hm ?_
         rw [hpi, k1, hhq]
      | false =>
        have hne : isEff P ops[i].op = false := by
          unfold isChain at hch
          rw [ha] at hch
          simpa using hch
        exact pass (dop_quiet hne h2).1 fun h => by rw [ha] at h; cases h
structure DInv (P : Program) (w0 : Fr) (nt : Nat) (ops : Array Oper) (es : List Ent) (r0 : Regs) (hf : Heap) (starts poss : List Nat) (E0 : Env) (N : Nat) (D : List Deferred) (listed : Array Bool) (a : Act) (w : World) : Prop where
  lsize : listed.size = ops.size
  size : a.tmps.size = nt
  defers : a.defers = D
  bnd : ∀ k, listed.getD k false = true → posOf poss k < N
  down : DownP ops fun k => listed.getD k false = true
  main : ∃ E s F, E0.le E ∧ s ∈ starts ∧ s ≤ N ∧ (∀ k o, ops[k]? = some o → isChain P o = true → (listed.getD k false = true ↔ posOf poss k < s)) ∧
    (∀ k o, ops[k]? = some o → isAlloc o = true → listed.getD k false = true → posOf poss k < s) ∧ Holds w0 F es hf poss (Held ops es hf poss listed s) ∧ Sim F E (heapAt es hf s) w ∧
    ∀ t, t ≤ top → (∃ k o e, listed.getD k false = true ∧ ops[k]? = some o ∧ o.dst = some t ∧ es[posOf poss k]? = some e ∧ Rel E e.v (a.tmps.getD t undef)) ∨
      ((∀ k o, listed.getD k false = true → ops[k]? = some o → o.dst ≠ some t) ∧ Rel E (T.get .bad (pa t) r0) (a.tmps.getD t undef))
theorem getD_iff {l : Array Bool} {i : Nat} : l.getD i false = true ↔ l[i]? = some true := by
  rw [Array.getD_eq_getD_getElem?]
  cases l[i]? with
  | none => simp
  | some b => cases b <;> simp
theorem getD_set {l : Array Bool} {i k : Nat} (hi : i < l.size) : (l.setIfInBounds i true).getD k false = true ↔ (k = i ∨ l.getD k false = true) := by
  rw [getD_iff, getD_iff, Array.getElem?_setIfInBounds]
  by_cases h : i = k
  · subst h; simp [hi]
  · have : ¬ k = i := fun e => h e.symm
    simp [h, this]
theorem eraseR_get {r : Regs} {t : Nat} (ht : t ≤ top) : ∀ {l : List Oper}, T.get .bad (pa t) (eraseR r l) = .bad ∨ (T.get .bad (pa t) (eraseR r l) = T.get .bad (pa t) r ∧ ∀ o ∈ l, o.dst ≠ some t)
  | [] => .inr ⟨rfl, fun o ho => by simp at ho⟩
  | o :: os => by
    simp only [eraseR]
    cases hd : o.dst with
    | none =>
      simp only
      rcases eraseR_get (r := r) ht (l := os) with h | ⟨h1, h2⟩
      · exact .inl h
      · exact .inr ⟨h1, fun o' ho' => by
          rcases List.mem_cons.1 ho' with rfl | ho'
          · rw [hd]; simp
          · exact h2 o' ho'⟩
    | some d =>
      simp only
      cases hb : Nat.ble d top with
      | true =>
        simp only [cond_true]
        rw [T.get_put]
        by_cases hdt : d = t
        · subst hdt; rw [if_pos rfl]; exact .inl rfl
        · rw [if_neg (fun e => hdt (pa_inj e))]
          rcases eraseR_get (r := r) ht (l := os) with h | ⟨h1, h2⟩
          · exact .inl h
          · exact .inr ⟨h1, fun o' ho' => by
              rcases List.mem_cons.1 ho' with rfl | ho'
              · rw [hd]; simpa using hdt
              · exact h2 o' ho'⟩
      | false =>
        simp only [cond_false]
        have hdt : d ≠ t := fun e => by subst e; rw [← Nat.ble_eq] at ht; rw [ht] at hb; cases hb
        rcases eraseR_get (r := r) ht (l := os) with h | ⟨h1, h2⟩
        · exact .inl h
        · exact .inr ⟨h1, fun o' ho' => by
            rcases List.mem_cons.1 ho' with rfl | ho'
            · rw [hd]; simpa using hdt
            · exact h2 o' ho'⟩
theorem eraseR_dslot {r : Regs} : ∀ {l : List Oper}, T.get .bad dslot (eraseR r l) = T.get .bad dslot r
  | [] => rfl
  | o :: os => by
    simp only [eraseR]
    cases hd : o.dst with
    | none => exact eraseR_dslot
    | some d =>
      simp only
      cases hb : Nat.ble d top with
      | true =>
        simp only [cond_true]
        rw [T.get_put, if_neg (pa_dslot (Nat.le_of_ble_eq_true hb))]
        exact eraseR_dslot
      | false => exact eraseR_dslot
theorem draw_step {rd : Option Nat} {D : List Deferred} {w0 : Fr} (hN : NamesOk P) (hcall : ∀ i, CallOk P (calls i)) (hbody : ∀ i, CallBody P (calls i)) (C : Cert P nt ops calls es r0 h0 rf hf starts order poss N M lit) {E0 : Env} {listed : Array Bool} {a : Act} {w : World} (I : DInv P w0 nt ops es r0 hf starts poss E0 N D listed a w)
    {i : Nat} (hi : i ∈ Region.ready .any ops listed) (hiM : posOf poss i < M) (hins : lit = true → ∀ o k ok, ops[i]? = some o → isIns o = true → ops[k]? = some ok → isIns ok = true → posOf poss k < posOf poss i → listed.getD k false = true) {Q : Exit → Act → World → Prop} {K : Act → World → Prop} (hK : ∀ a' w', DInv P w0 nt ops es r0 hf starts poss E0 N D (listed.setIfInBounds i true) a' w' → K a' w')
    (hQ : ∀ E' a' w' x v h', E0.le E' → N < ops.size → ops.size ≤ M → (∃ i0 o0, ops[i0]? = some o0 ∧ posOf poss i0 = N ∧ (dopC P nt ops o0).run (calls i0) rf hf = .pan v h') → RegRel0 E' nt (eraseR r0 ops.toList) a' → a'.defers = D → Rel E' v x → Sim w0 E' h' w' → Q (.panic (panic1 x)) a' w') : wpOpIn (Wd rd) 0 P ops Q i K a w := by
  rw [mem_ready] at hi
  obtain ⟨E, s, F, hE, hs, hsn, hlev, hall, hheld, hsim, hregs⟩ := I.main
  obtain ⟨hnl, o, hio, hedges⟩ := hi
  have hin : i < ops.size := (Array.getElem?_eq_some_iff.1 hio).1
  have hnot : ¬ listed.getD i false = true := by
    rw [getD_iff]
    intro h
    rw [Array.getD_eq_getD_getElem?, h] at hnl
    simp at hnl
  have hmask := masksFrom_ok I.down ops.toList [] (fun j => by simp) (fun k m j hk => by simp at hk)
  have hD' : DownP ops fun k => listed.getD k false = true ∨ k = i := by
    intro k ok e hk hok he hb
    rcases hk with hk | rfl
    · exact .inl (I.down k ok e hk hok he hb)
    · rw [hio] at hok; cases hok
      exact .inl (hedges e (Array.mem_toList_iff.1 he) (by rw [binds_eq]; exact hb))
  have hmask' := masksFrom_ok hD' ops.toList [] (fun j => by simp) (fun k m j hk => by simp at hk)
  obtain ⟨mi, hmi, hon, hpair⟩ := C.fine i o hio
  have hpair := hpair hiM
  have hNM := C.nm
  have hbit : ∀ k, k ≠ i → bitB mi k = true → listed.getD k false = true := by
    intro k hk hb
    rcases hmask' i mi k hmi hb (.inr rfl) with h | h
    · exact h
    · exact absurd h hk
  have hpl := (C.posLt i hin).1
  have hposN : posOf poss i ≤ N := by
    rcases Nat.lt_or_ge N (posOf poss i) with hgt | hle
    · exfalso
      have hMs : ops.size ≤ M := by
        rcases Nat.lt_or_ge M ops.size with h | h
        · have := (C.tail h).1; omega
        · exact h
      obtain ⟨i0, o0, m0, z1, z2, z3, z4, z5, _⟩ := C.stop (by omega) hMs
      have hb := z5 i o mi hio hgt hmi
      have h1 := hbit i0 (fun e => by subst e; omega) hb
      have := I.bnd i0 h1
      omega
    · exact hle
  have uniq : ∀ (k k' : Nat) (ok ok' : Oper) (t : Nat), ops[k]? = some ok → ops[k']? = some ok' → posOf poss k < M → posOf poss k' < M → ok.dst = some t → ok'.dst = some t → k = k' := by
    intro k k' ok ok' t h1 h2 b1 b2 h3 h4
    obtain ⟨mk, _, _, hp⟩ := C.fine k ok h1
    obtain ⟨mk', _, hp2, _⟩ := hp b1 k' ok' h2 b2
    unfold pairFine at hp2
    rw [cond_beq] at hp2
    by_cases hkk : k = k'
    · exact hkk
    · rw [if_neg hkk, h4, h3] at hp2
      simp at hp2
  have readsG : smallT (readsOf ops o) = true → ∀ t ∈ readsOf ops o, Rel E (T.get .bad (pa t) (regAt es rf (posOf poss i))) (a.tmps.getD t undef) := by
    intro hsm t ht
    have htop : t ≤ top := by
      have := List.all_eq_true.1 hsm t ht
      exact Nat.le_of_ble_eq_true this
    have order' : ∀ (k : Nat) (ok : Oper), k ≠ i → posOf poss k < M → ops[k]? = some ok → ok.dst = some t → ∃ mk, (masksFrom [] ops.toList)[k]? = some mk ∧ (posOf poss k < posOf poss i → bitB mi k = true) ∧ (¬ posOf poss k < posOf poss i → bitB mk i = true) := by
      intro k ok hk hkM hok hd
      obtain ⟨mk, q1, q2, _⟩ := hpair k ok hok hkM
      refine ⟨mk, q1, ?_⟩
      unfold pairFine at q2
      rw [cond_beq, if_neg (fun e => hk e.symm), hd] at q2
      simp only [Bool.and_eq_true] at q2
      have q3 := q2.1
      rw [show (readsOf ops o).contains t = true from by simpa using ht] at q3
      simp only [cond_true] at q3
      refine ⟨fun hlt => ?_, fun hge => ?_⟩
      · rw [show Nat.blt (posOf poss k) (posOf poss i) = true from by rw [Nat.blt_eq]; exact hlt] at q3
        exact q3
      · rw [show Nat.blt (posOf poss k) (posOf poss i) = false from by rw [← Bool.not_eq_true, Nat.blt_eq]; exact hge] at q3
        exact q3
    rcases C.regs (posOf poss i) hposN t htop with ⟨k, ok, ek, q1, q2, q3, q4, q5⟩ | ⟨q1, q2⟩
    · obtain ⟨mk, _, o1, _⟩ := order' k ok (fun e => by subst e; omega) (by omega) q2 q3
      have hlk := hbit k (fun e => by subst e; omega) (o1 q1)
      rcases hregs t htop with ⟨k', ok', ek', p1, p2, p3, p4, p5⟩ | ⟨p1, _⟩
      · have := uniq k k' ok ok' t q2 p2 (by omega) (by have := I.bnd k' p1; omega) q3 p3
        subst this
        rw [q4] at p4; cases p4
        rw [q5]; exact p5
      · exact absurd q3 (p1 k ok hlk q2)
    · rcases hregs t htop with ⟨k', ok', ek', p1, p2, p3, p4, p5⟩ | ⟨_, p2⟩
      · have hki : k' ≠ i := fun e => hnot (e ▸ p1)
        obtain ⟨mk, m1, _, o2⟩ := order' k' ok' hki (by have := I.bnd k' p1; omega) p2 p3
        by_cases hlt : posOf poss k' < posOf poss i
        · exact absurd p3 (q1 k' ok' hlt p2)
        · exact absurd (hmask k' mk i m1 (o2 hlt) p1) hnot
      · rw [q2]; exact p2
  have level : isEff P o.op = true → s ≤ posOf poss i → s = posOf poss i ∧ isAlloc o = false := by
    intro heff hle
    rcases C.sts s hs with (h | ⟨h, hMN⟩) | ⟨k, ok, k1, k2, k3⟩
    · omega
    · omega
    · have hnk : ¬ listed.getD k false = true := fun h => by have := (hlev k ok k1 k2).1 h; omega
      have hkl := (Array.getElem?_eq_some_iff.1 k1).1
      by_cases hki : k = i
      · subst hki
        rw [hio] at k1; cases k1
        refine ⟨k3, ?_⟩
        unfold isChain at k2
        simpa [heff] using k2
      · have hlt : posOf poss k < posOf poss i := by
          have : posOf poss k ≠ posOf poss i := fun e => hki (C.posInj hkl hin e)
          omega
        obtain ⟨mk, _, _, q3⟩ := hpair k ok k1 (by omega)
        rcases q3 heff k2 hlt with h | ⟨g1, g2, g3⟩
        · exact absurd (hbit k hki h) hnk
        · exact absurd (hins g1 o k ok hio g2 k1 g3 hlt) hnk
  rcases Nat.lt_or_ge (posOf poss i) N with hltN | hgeN
  case inr =>
    have hpe : posOf poss i = N := by omega
    have hMs : ops.size ≤ M := by
      rcases Nat.lt_or_ge M ops.size with h | h
      · have := (C.tail h).1; omega
      · exact h
    obtain ⟨i0, o0, m0, z1, z2, z3, z4, z5, z6, v, h', z7⟩ := C.stop (by omega) hMs
    have hii : i0 = i := C.posInj (Array.getElem?_eq_some_iff.1 z1).1 hin (by rw [z2, hpe])
    subst hii
    rw [hio] at z1; cases z1
    rw [hmi] at z4; cases z4
    obtain ⟨heff, hna⟩ := mayPan_chain z3
    have hchain : isChain P o = true := by unfold isChain; rw [heff, hna]; rfl
    have hsi : s ≤ posOf poss i0 := by
      rcases Nat.lt_or_ge (posOf poss i0) s with h | h
      · exact absurd ((hlev i0 o hio hchain).2 h) hnot
      · exact h
    have hse := (level heff hsi).1
    have hF : F = w0 := hheld.none fun k hk => by
      obtain ⟨ok, q1, q2, q3, q4⟩ := hk
      have hki : k ≠ i0 := fun e => by subst e; omega
      exact q3 (hbit k hki (z6 k ok q1 q2.1 (by omega)))
    subst hF
    have hnone : es[N]? = none := List.getElem?_eq_none (by rw [C.len]; exact Nat.le_refl _)
    have hreads := readsG (dopC_fine' z7).2
    rw [hpe] at hreads
    simp only [regAt, hnone] at hreads
    rw [hse, hpe] at hsim
    simp only [heapAt, hnone] at hsim
    refine dop_pan hN (hcall i0) (hbody i0) hio z7 z3 I.size hreads hsim fun E' x w' q1 q2 q3 => hQ E' a w' x v h' (hE.trans q1) (by omega) hMs ⟨i0, o, hio, hpe, z7⟩ ⟨I.size, fun t ht => ?_⟩ I.defers q2 q3
    rcases eraseR_get (r := r0) ht (l := ops.toList) with h | ⟨h1, h2⟩
    · rw [h]; simp [Rel]
    · rw [h1]
      rcases hregs t ht with ⟨k, ok, ek, p1, p2, p3, p4, p5⟩ | ⟨p1, p2⟩
      · exact absurd p3 (h2 ok (by rw [← Array.getElem?_toList] at p2; exact List.mem_of_getElem? p2))
      · exact Rel.mono q1 _ _ p2
  obtain ⟨e, hes, hrun, hregn⟩ := C.step i o hio hltN
  have hfine := dopC_fine hrun
  have hei : regAt es rf (posOf poss i) = e.r := by simp [regAt, hes]
  have hhi : heapAt es hf (posOf poss i) = e.h := by simp [heapAt, hes]
  have reads := readsG hfine.2
  rw [hei] at reads
  have hli : i < listed.size := by rw [I.lsize]; exact hin
  have after : ∀ (s' : Nat) (F' : Fr) (E' : Env) (x : Value) (w' : World), s' ∈ starts → s' ≤ N → (∀ k ok, ops[k]? = some ok → isChain P ok = true → ((k = i ∨ listed.getD k false = true) ↔ posOf poss k < s')) →
      (∀ k ok, ops[k]? = some ok → isAlloc ok = true → (k = i ∨ listed.getD k false = true) → posOf poss k < s') →
      Holds w0 F' es hf poss (Held ops es hf poss (listed.setIfInBounds i true) s') → E.le E' → Rel E' e.v x → Sim F' E' (heapAt es hf s') w' →
      DInv P w0 nt ops es r0 hf starts poss E0 N D (listed.setIfInBounds i true) (a.put o.dst x) w' := by
    intro s' F' E' x w' hs' hsn' hl' hal' hh' hle hx hsim'
    refine ⟨by simp [I.lsize], by cases h : o.dst <;> simp [Act.put, I.size], by cases h : o.dst <;> simp [Act.put, I.defers], fun k hk => by
      rcases (getD_set hli).1 hk with rfl | hk
      · exact hltN
      · exact I.bnd k hk, ?_, E', s', F', hE.trans hle, hs', hsn', fun k ok h1 h2 => by rw [getD_set hli]; exact hl' k ok h1 h2,
      fun k ok h1 h2 h3 => hal' k ok h1 h2 ((getD_set hli).1 h3), hh', hsim', fun t ht => ?_⟩
    · intro k ok e' hk hok he' hb
      rw [getD_set hli] at hk ⊢
      rcases hD' k ok e' hk.symm hok he' hb with h | h
      · exact .inr h
      · exact .inl h
    · by_cases hd : o.dst = some t
      · refine .inl ⟨i, o, e, by rw [getD_set hli]; exact .inl rfl, hio, hd, hes, ?_⟩
        have hlt : t < a.tmps.size := by
          have := hfine.1
          rw [hd] at this
          simp only [dstFine, Bool.and_eq_true, Nat.blt_eq] at this
          rw [I.size]; exact this.1
        rw [hd]
        simp only [Act.put]
        rw [Array.getD_eq_getD_getElem?, Array.getElem?_setIfInBounds, if_pos rfl, if_pos hlt]
        exact hx
      · have hput : (a.put o.dst x).tmps.getD t undef = a.tmps.getD t undef := by
          cases hod : o.dst with
          | none => rfl
          | some d =>
            simp only [Act.put]
            rw [Array.getD_eq_getD_getElem?, Array.getD_eq_getD_getElem?, Array.getElem?_setIfInBounds, if_neg (fun e => hd (by rw [hod, e]))]
        rw [hput]
        rcases hregs t ht with ⟨k, ok, ek, p1, p2, p3, p4, p5⟩ | ⟨p1, p2⟩
        · exact .inl ⟨k, ok, ek, by rw [getD_set hli]; exact .inr p1, p2, p3, p4, Rel.mono hle _ _ p5⟩
        · refine .inr ⟨fun k ok hk hok => ?_, Rel.mono hle _ _ p2⟩
          rw [getD_set hli] at hk
          rcases hk with rfl | hk
          · rw [hio] at hok; cases hok; exact hd
          · exact p1 k ok hk hok
  have heldSame : ¬ (isAlloc o = true ∧ Made es hf poss i) → ∀ s' k, Held ops es hf poss (listed.setIfInBounds i true) s' k ↔ Held ops es hf poss listed s' k := by
    intro ha s' k
    constructor
    · rintro ⟨ok, q1, q2, q3, q4⟩
      exact ⟨ok, q1, q2, fun h => q3 ((getD_set hli).2 (.inr h)), q4⟩
    · rintro ⟨ok, q1, q2, q3, q4⟩
      refine ⟨ok, q1, q2, fun h => ?_, q4⟩
      rcases (getD_set hli).1 h with rfl | h
      · rw [hio] at q1; cases q1; exact ha q2
      · exact q3 h
  cases heff : isEff P o.op with
  | true =>
    cases ha : isAlloc o with
    | true =>
      have hlt : posOf poss i < s := by
        rcases Nat.lt_or_ge (posOf poss i) s with h | h
        · exact h
        · have := (level heff h).2
          rw [ha] at this; cases this
      by_cases hm : Made es hf poss i
      case neg =>
        have hrun' : (dopC P nt ops o).run (calls i) e.r (heapAt es hf s) = .val e.v (heapAt es hf s) := by
          rcases dop_shape ha hrun with ⟨kk, k1, _⟩ | ⟨_, k1⟩
          · exact absurd (show Made es hf poss i from by unfold Made; rw [k1, hhi]; exact Nat.succ_ne_self _) hm
          · exact k1 _
        refine dop_sound hN (hcall i) (hbody i) hio hrun' I.size reads hsim fun E' x w' q1 q2 q3 => hK _ _ (after s F E' x w' hs hsn (fun k ok hok hkc => ?_) (fun k ok hok hka hk => ?_) (hheld.congr fun k => heldSame (fun h => hm h.2) s k) q1 q2 q3)
        · constructor
          · rintro (rfl | h)
            · rw [hio] at hok; cases hok
              unfold isChain at hkc
              rw [ha] at hkc
              simp at hkc
            · exact (hlev k ok hok hkc).1 h
          · intro h
            exact .inr ((hlev k ok hok hkc).2 h)
        · rcases hk with rfl | hk
          · exact hlt
          · exact hall k ok hok hka hk
      have hH : Held ops es hf poss listed s i := ⟨o, hio, ⟨ha, hm⟩, hnot, hlt⟩
      have hmade : (heapAt es hf (posOf poss i + 1)).next ≠ e.h.next := by rw [← hhi]; exact hm
      have hnm : nameAt es hf poss i = pa e.h.next := by unfold nameAt; rw [hhi]
      have hpd := (hheld.new i hH).1
      have hw0 := (hheld.new i hH).2
      have hblk : blkAt es hf poss i = (heapAt es hf (posOf poss i + 1)).get (pa e.h.next) := by unfold blkAt; rw [hnm]
      rw [hnm, hblk] at hpd
      refine dop_link hio ha hrun I.size reads hsim hmade hpd fun E' x w' q1 q2 q3 => hK _ _ (after s (F.free (pa e.h.next)) E' x w' hs hsn (fun k ok hok hkc => ?_) (fun k ok hok hka hk => ?_) ?_ q1 q2 q3)
      · constructor
        · rintro (rfl | h)
          · rw [hio] at hok; cases hok
            unfold isChain at hkc
            rw [ha] at hkc
            simp at hkc
          · exact (hlev k ok hok hkc).1 h
        · intro h
          exact .inr ((hlev k ok hok hkc).2 h)
      · rcases hk with rfl | hk
        · exact hlt
        · exact hall k ok hok hka hk
      · have sub : ∀ k, Held ops es hf poss (listed.setIfInBounds i true) s k → Held ops es hf poss listed s k ∧ k ≠ i := by
          rintro k ⟨ok, q1, q2, q3, q4⟩
          refine ⟨⟨ok, q1, q2, fun h => q3 ((getD_set hli).2 (.inr h)), q4⟩, fun e => q3 ((getD_set hli).2 (.inl e))⟩
        refine ⟨hheld.w, fun b hb => ?_, fun k hk => ?_, fun k k' hk hk' => hheld.inj k k' (sub k hk).1 (sub k' hk').1⟩
        · by_cases hbi : b = pa e.h.next
          · subst hbi
            simp only [Fr.free, if_true]
            rw [← hnm, hw0]
          · simp only [Fr.free, if_neg hbi]
            refine hheld.old b fun k hk => ?_
            by_cases hki : k = i
            · subst hki; rw [hnm]; exact fun e => hbi e.symm
            · obtain ⟨ok, q1, q2, q3, q4⟩ := hk
              refine hb k ⟨ok, q1, q2, fun h => ?_, q4⟩
              rcases (getD_set hli).1 h with h | h
              · exact hki h
              · exact q3 h
        · obtain ⟨hk1, hki⟩ := sub k hk
          have hne : nameAt es hf poss k ≠ pa e.h.next := fun e => hki (hheld.inj k i hk1 hH (by rw [e, hnm]))
          simp only [Fr.free, if_neg hne]
          exact hheld.new k hk1
    | false =>
      have hchain : isChain P o = true := by unfold isChain; rw [heff, ha]; rfl
      have hsi : s ≤ posOf poss i := by
        rcases Nat.lt_or_ge (posOf poss i) s with h | h
        · exact absurd ((hlev i o hio hchain).2 h) hnot
        · exact h
      have hse := (level heff hsi).1
      rw [← hhi, ← hse] at hrun
      refine dop_sound hN (hcall i) (hbody i) hio hrun I.size reads hsim fun E' x w' q1 q2 q3 => ?_
      rw [hse] at q3
      have hlists : ∀ k ok, ops[k]? = some ok → isAlloc ok = true → posOf poss i + 1 ≤ posOf poss k → ¬ (listed.setIfInBounds i true).getD k false = true := by
        intro k ok hok hka hp h
        rcases (getD_set hli).1 h with rfl | h
        · omega
        · have := hall k ok hok hka h
          omega
      have hheld1 : Holds w0 F es hf poss (Held ops es hf poss (listed.setIfInBounds i true) (posOf poss i + 1)) := by
        refine hheld.congr fun k => ?_
        rw [heldSame (fun h => by rw [ha] at h; cases h.1)]
        constructor
        · rintro ⟨ok, z1, z2, z3, z4⟩
          refine ⟨ok, z1, z2, z3, ?_⟩
          have hkl := (Array.getElem?_eq_some_iff.1 z1).1
          have : posOf poss k ≠ posOf poss i := fun e => by
            have := C.posInj hkl hin e
            subst this
            rw [hio] at z1; cases z1
            rw [ha] at z2; cases z2.1
          omega
        · rintro ⟨ok, z1, z2, z3, z4⟩
          exact ⟨ok, z1, z2, z3, by omega⟩
      obtain ⟨s', F', g1, g2, g3, g4, g5, g6⟩ := C.advance (N - (posOf poss i + 1)) (posOf poss i + 1) (by omega) hlists F hheld1 q3
      refine hK _ _ (after s' F' E' x w' g1 g3 (fun k ok hok hkc => ?_) (fun k ok hok hka hk => ?_) g5 q1 q2 g6)
      · have hkl := (Array.getElem?_eq_some_iff.1 hok).1
        constructor
        · rintro (rfl | h)
          · omega
          · have := (hlev k ok hok hkc).1 h
            omega
        · intro h
          by_cases hki : k = i
          · exact .inl hki
          · refine .inr ((hlev k ok hok hkc).2 ?_)
            rcases Nat.lt_or_ge (posOf poss k) s with hh | hh
            · exact hh
            · have hne : posOf poss k ≠ posOf poss i := fun e => hki (C.posInj hkl hin e)
              have := g4 k ok hok hkc (by omega)
              omega
      · rcases hk with rfl | hk
        · omega
        · have := hall k ok hok hka hk
          omega
  | false =>
    have ha : isAlloc o = false := by
      cases h : isAlloc o with
      | false => rfl
      | true => rw [isAlloc_eff h] at heff; cases heff
    obtain ⟨c, hc, hrun'⟩ : ∃ c, (CallOk P c ∧ CallBody P c) ∧ (dopC P nt ops o).run c e.r (heapAt es hf s) = .val e.v (heapAt es hf s) := by
      cases hlo : looks o.op with
      | false => exact ⟨_, ⟨hcall i, hbody i⟩, (dop_quiet heff hrun).2 hlo _⟩
      | true =>
        obtain ⟨e', q1, q2⟩ := C.ask i o hio hlo heff hltN
        rw [hes] at q1; cases q1
        obtain ⟨c, h', hc, q3⟩ := q2 s hs (zipAll_mk (by rw [masksFrom_length]; simp) fun k mk ok h1 h2 => by
          simp only [Nat.zero_add]
          have hok : ops[k]? = some ok := by simpa using h2
          cases hke : isChain P ok with
          | false => rfl
          | true =>
            simp only [cond_true]
            cases hks : Nat.blt (posOf poss k) s with
            | true =>
              rw [Nat.blt_eq] at hks
              simp only [cond_true, Bool.not_eq_true']
              cases hb : bitB mk i with
              | false => rfl
              | true => exact absurd (hmask k mk i h1 hb ((hlev k ok hok hke).2 hks)) hnot
            | false =>
              have hks' : ¬ posOf poss k < s := by rw [← Nat.blt_eq, hks]; simp
              simp only [cond_false, Bool.not_eq_true', hmi, Option.getD_some]
              cases hb : bitB mi k with
              | false => rfl
              | true =>
                by_cases hki : k = i
                · subst hki
                  rw [hio] at hok; cases hok
                  unfold isChain at hke
                  rw [heff] at hke; cases hke
                · exact absurd ((hlev k ok hok hke).1 (hbit k hki hb)) hks')
        rw [(dop_quiet heff q3).1] at q3
        exact ⟨c, hc, q3⟩
    refine dop_sound hN hc.1 hc.2 hio hrun' I.size reads hsim fun E' x w' q1 q2 q3 => hK _ _ (after s F E' x w' hs hsn (fun k ok hok hkc => ?_) (fun k ok hok hka hk => ?_) (hheld.congr fun k => heldSame (fun h => by rw [ha] at h; cases h.1) s k) q1 q2 q3)
    · constructor
      · rintro (rfl | h)
        · rw [hio] at hok; cases hok
          unfold isChain at hkc
          rw [heff] at hkc; cases hkc
        · exact (hlev k ok hok hkc).1 h
      · intro h
        exact .inr ((hlev k ok hok hkc).2 h)
    · rcases hk with rfl | hk
      · rw [hio] at hok; cases hok; rw [ha] at hka; cases hka
      · exact hall k ok hok hka hk
theorem dinv_full {D : List Deferred} {w0 : Fr} (C : Cert P nt ops calls es r0 h0 rf hf starts order poss N M lit) {E0 : Env} (hNM : N ≤ M) {listed : Array Bool} {a : Act} {w : World} (I : DInv P w0 nt ops es r0 hf starts poss E0 N D listed a w)
    (hall : ∀ k, k < ops.size → posOf poss k < N → listed.getD k false = true) : ∃ E', E0.le E' ∧ RegRel0 E' nt rf a ∧ a.defers = D ∧ Sim w0 E' hf w := by
  obtain ⟨E, s, F, hE, hs, hsn, hlev, _, hheld, hsim, hregs⟩ := I.main
  have hnone : es[N]? = none := List.getElem?_eq_none (by rw [C.len]; exact Nat.le_refl _)
  have hheap : heapAt es hf N = hf := by simp [heapAt, hnone]
  have hregf : regAt es rf N = rf := by simp [regAt, hnone]
  have hse : s = N := by
    rcases C.sts s hs with (h | ⟨h, _⟩) | ⟨k, ok, k1, k2, k3⟩
    · have := C.nle; omega
    · exact h
    · rcases Nat.lt_or_ge s N with hlt | hge
      · have := (hlev k ok k1 k2).1 (hall k (Array.getElem?_eq_some_iff.1 k1).1 (by omega))
        omega
      · omega
  subst hse
  have hF : F = w0 := hheld.none fun k hk => by
    obtain ⟨ok, q1, q2, q3, q4⟩ := hk
    exact q3 (hall k (Array.getElem?_eq_some_iff.1 q1).1 q4)
  subst hF
  rw [hheap] at hsim
  have hMN : ∀ k, posOf poss k < s → posOf poss k < M := fun k h => by omega
  refine ⟨E, hE, ⟨I.size, fun t ht => ?_⟩, I.defers, hsim⟩
  have huniq : ∀ (k k' : Nat) (ok ok' : Oper), ops[k]? = some ok → ops[k']? = some ok' → posOf poss k < s → posOf poss k' < s → ok.dst = some t → ok'.dst = some t → k = k' := by
    intro k k' ok ok' h1 h2 b1 b2 h3 h4
    obtain ⟨mk, _, _, hp⟩ := C.fine k ok h1
    obtain ⟨mk', _, hp2, _⟩ := hp (hMN k b1) k' ok' h2 (hMN k' b2)
    unfold pairFine at hp2
    rw [cond_beq] at hp2
    by_cases hkk : k = k'
    · exact hkk
    · rw [if_neg hkk, h4, h3] at hp2
      simp at hp2
  rcases C.regs s (Nat.le_refl _) t ht with ⟨k, ok, ek, q1, q2, q3, q4, q5⟩ | ⟨q1, q2⟩
  · rw [hregf] at q5
    rcases hregs t ht with ⟨k', ok', ek', p1, p2, p3, p4, p5⟩ | ⟨p1, _⟩
    · have := huniq k k' ok ok' q2 p2 q1 (I.bnd k' p1) q3 p3
      subst this
      rw [q4] at p4; cases p4
      rw [q5]; exact p5
    · exact absurd q3 (p1 k ok (hall k (Array.getElem?_eq_some_iff.1 q2).1 q1) q2)
  · rw [hregf] at q2
    rcases hregs t ht with ⟨k', ok', ek', p1, p2, p3, p4, p5⟩ | ⟨_, p2⟩
    · exact absurd p3 (q1 k' ok' (I.bnd k' p1) p2)
    · rw [q2]; exact p2
theorem draw_any {rd : Option Nat} {D : List Deferred} {w0 : Fr} (hN : NamesOk P) (hcall : ∀ i, CallOk P (calls i)) (hbody : ∀ i, CallBody P (calls i)) (C : Cert P nt ops calls es r0 h0 rf hf starts order poss N M false) {E0 : Env} {Q : Exit → Act → World → Prop}
    (hQ : N = ops.size → ∀ E' a' w', E0.le E' → RegRel0 E' nt rf a' → a'.defers = D → Sim w0 E' hf w' → Q .normal a' w')
    (hP : ∀ E' a' w' x v h', E0.le E' → N < ops.size → ops.size ≤ M → (∃ i0 o0, ops[i0]? = some o0 ∧ posOf poss i0 = N ∧ (dopC P nt ops o0).run (calls i0) rf hf = .pan v h') → RegRel0 E' nt (eraseR r0 ops.toList) a' → a'.defers = D → Rel E' v x → Sim w0 E' h' w' → Q (.panic (panic1 x)) a' w')
    (hT : M < ops.size → ∀ (fuel : Nat) (listed : Array Bool) E' a' w', (List.range ops.size).countP (fun i => !listed.getD i false) ≤ fuel → listed.size = ops.size → DownP ops (fun k => listed.getD k false = true) → (∀ k, k < ops.size → (listed.getD k false = true ↔ posOf poss k < N)) →
      E0.le E' → RegRel0 E' nt rf a' → a'.defers = D → Sim w0 E' hf w' → wpAnyIn (Wd rd) 0 P .any ops Q fuel listed a' w') : ∀ (fuel : Nat) (listed : Array Bool) (a : Act) (w : World), (List.range ops.size).countP (fun i => !listed.getD i false) ≤ fuel →
    DInv P w0 nt ops es r0 hf starts poss E0 N D listed a w → wpAnyIn (Wd rd) 0 P .any ops Q fuel listed a w := by
  have done : ∀ (listed : Array Bool) (a : Act) (w : World), DInv P w0 nt ops es r0 hf starts poss E0 N D listed a w → Region.ready .any ops listed = [] → ∀ i, i < ops.size → listed.getD i false = true := by
    intro listed a w I hr i
    induction i using Nat.strongRecOn with
    | _ i ih =>
      intro hi
      cases hli : listed.getD i false with
      | true => rfl
      | false =>
        exfalso
        have hio : ops[i]? = some ops[i] := Array.getElem?_eq_getElem hi
        obtain ⟨mi, _, hon, _⟩ := C.fine i _ hio
        have : i ∈ Region.ready .any ops listed := by
          rw [mem_ready]
          refine ⟨?_, ops[i], hio, fun e he hb => ?_⟩
          · have hsz : i < listed.size := by rw [I.lsize]; exact hi
            rw [Array.getD_eq_getD_getElem?, Array.getElem?_eq_getElem hsz] at hli ⊢
            exact hli
          · have h1 := List.all_eq_true.1 hon e (Array.mem_toList_iff.2 he)
            rw [binds_eq] at hb
            rw [hb] at h1
            simp only [Bool.not_true, Bool.false_or, Nat.blt_eq] at h1
            exact ih e.on h1 (by omega)
        rw [hr] at this
        simp at this
  have hNM := C.nm
  have full : ∀ (listed : Array Bool) (a : Act) (w : World), DInv P w0 nt ops es r0 hf starts poss E0 N D listed a w → (∀ k, k < ops.size → posOf poss k < N → listed.getD k false = true) → (N = ops.size ∨ (M < ops.size ∧ M = N)) →
      ∃ E', E0.le E' ∧ RegRel0 E' nt rf a ∧ a.defers = D ∧ Sim w0 E' hf w := fun _ _ _ I hall _ => dinv_full C hNM I hall
  have finish : ∀ (listed : Array Bool) (a : Act) (w : World), DInv P w0 nt ops es r0 hf starts poss E0 N D listed a w → Region.ready .any ops listed = [] → Q .normal a w := by
    intro listed a w I hr
    have hall := done listed a w I hr
    have hNs : N = ops.size := by
      rcases Nat.lt_or_ge N ops.size with hlt | hge
      · exfalso
        obtain ⟨i, hi1, hi2⟩ := C.ordAt N hlt
        have := I.bnd i (hall i hi1)
        omega
      · exact Nat.le_antisymm C.nle hge
    obtain ⟨E', g1, g2, g3, g4⟩ := full listed a w I (fun k hk _ => hall k hk) (.inl hNs)
    exact hQ hNs E' a w g1 g2 g3 g4
  intro fuel
  induction fuel with
  | zero =>
    intro listed a w hc I
    have hall : ∀ i, i < ops.size → listed.getD i false = true := by
      intro i hi
      have h0 : (List.range ops.size).countP (fun i => !listed.getD i false) = 0 := by omega
      rw [List.countP_eq_zero] at h0
      simpa using h0 i (List.mem_range.2 hi)
    have hr : Region.ready .any ops listed = [] := by
      cases hq : Region.ready .any ops listed with
      | nil => rfl
      | cons j js =>
        exfalso
        have hj : j ∈ Region.ready .any ops listed := by rw [hq]; simp
        rw [mem_ready] at hj
        obtain ⟨h1, o, h2, _⟩ := hj
        have := hall j (Array.getElem?_eq_some_iff.1 h2).1
        rw [getD_iff] at this
        rw [Array.getD_eq_getD_getElem?, this] at h1
        simp at h1
    exact ⟨hr, finish listed a w I hr⟩
  | succ fuel ih =>
    intro listed a w hc I
    by_cases htl : M < ops.size ∧ ∀ k, k < ops.size → posOf poss k < N → listed.getD k false = true
    · obtain ⟨hM1, hall⟩ := htl
      obtain ⟨E', g1, g2, g3, g4⟩ := full listed a w I hall (.inr ⟨hM1, (C.tail hM1).1⟩)
      exact hT hM1 (fuel + 1) listed E' a w hc I.lsize I.down (fun k hk => ⟨I.bnd k, hall k hk⟩) g1 g2 g3 g4
    have hready : ∀ i, i ∈ Region.ready .any ops listed → posOf poss i < M := by
      intro i hi
      have hi2 := hi
      rw [mem_ready] at hi2
      obtain ⟨h1, o, h2, hedges⟩ := hi2
      have hin : i < ops.size := (Array.getElem?_eq_some_iff.1 h2).1
      rcases Nat.lt_or_ge M ops.size with hM1 | hM1
      · obtain ⟨hMN, htail⟩ := C.tail hM1
        rcases Nat.lt_or_ge (posOf poss i) N with hlt | hge
        · omega
        · exfalso
          refine htl ⟨hM1, fun k hk hkN => ?_⟩
          obtain ⟨mi, hmi, _⟩ := C.fine i o h2
          have hb := htail i o mi h2 hge hmi k hk hkN
          have hD' : DownP ops fun k => listed.getD k false = true ∨ k = i := by
            intro k ok e hk hok he hb
            rcases hk with hk | rfl
            · exact .inl (I.down k ok e hk hok he hb)
            · rw [h2] at hok; cases hok
              exact .inl (hedges e (Array.mem_toList_iff.1 he) (by rw [binds_eq]; exact hb))
          rcases masksFrom_ok hD' ops.toList [] (fun j => by simp) (fun k m j hk => by simp at hk) i mi k hmi hb (.inr rfl) with h | h
          · exact h
          · subst h; omega
      · have := (C.posLt i hin).1
        omega
    refine ⟨fun hr => finish listed a w I hr, fun i hi => ?_⟩
    refine draw_step hN hcall hbody C I hi (hready i hi) (fun h => by cases h) (fun a' w' I' => ih _ a' w' ?_ I') hP
    have hi2 := hi
    rw [mem_ready] at hi2
    obtain ⟨h1, o, h2, _⟩ := hi2
    have hin : i < ops.size := (Array.getElem?_eq_some_iff.1 h2).1
    have hli : i < listed.size := by rw [I.lsize]; exact hin
    have hnot : listed.getD i false = false := by
      rw [Array.getD_eq_getD_getElem?, Array.getElem?_eq_getElem hli] at h1 ⊢
      exact h1
    have := countP_lt (fun k => !listed.getD k false) (fun k => !(listed.setIfInBounds i true).getD k false) (List.range ops.size)
      (fun k _ hk => by
        simp only [Bool.not_eq_true'] at hk ⊢
        cases hq : listed.getD k false with
        | false => rfl
        | true =>
          have := (getD_set (k := k) hli).2 (.inr hq)
          rw [hk] at this
          cases this)
      ⟨i, List.mem_range.2 hin, by simp [hnot], by
        have := (getD_set (k := i) hli).2 (.inl rfl)
        simp [this]⟩
    omega
theorem Heap.set_comm (h : Heap) {b b' : Pa} (hne : b ≠ b') (k k' : Blk) : (h.set b k).set b' k' = (h.set b' k').set b k := by
  unfold Heap.set
  simp only
  rw [T.put_comm _ _ _ _ _ _ (fun e => hne e.symm)]
theorem storePtr_eq {o : Oper} {x : Operand} (h : storePtr o = some x) : ∃ t y, o.op = .store t x y ∧ o.dst = none ∧ o.guard = none := by
  unfold storePtr at h
  split at h
  case h_2 => cases h
  rename_i t x' y ho
  split at h
  case h_2 => cases h
  rename_i hd
  split at h
  case h_2 => cases h
  rename_i hg
  cases h
  exact ⟨t, y, ho, hd, hg⟩
theorem lay_shape {h h' : Heap} {b : Pa} {off : Nat} {vs : List V} (he : lay h b off vs = some h') : ∃ k, h' = h.set b k ∧ ∀ H : Heap, H.get b = h.get b → lay H b off vs = some (H.set b k) := by
  unfold lay at he ⊢
  cases hg : h.get b <;> rw [hg] at he <;> simp only [Blk.on] at he <;> try (cases he; done)
  obtain ⟨hc, h1⟩ := cond_some he
  cases h1
  refine ⟨_, rfl, fun H hH => ?_⟩
  rw [hH]
  simp only [Blk.on, hc, cond_true]
theorem dop_store {all : Array Oper} {o : Oper} {x : Operand} {call : CallF} {r : Regs} {h h' : Heap} {v : V} (hx : storePtr o = some x) (he : (dopC P nt all o).run call r h = .val v h') :
    ∃ b off k, (evC x).run (trimR r (readsOf all o)) = .ptr b off ∧ h' = h.set b k ∧ ∀ H : Heap, H.get b = h.get b → (dopC P nt all o).run call r H = .val v (H.set b k) := by
  obtain ⟨t, y, ho, hd, hg⟩ := storePtr_eq hx
  obtain ⟨h1, h2⟩ := dopC_fine he
  have key : dopC P nt all o = ⟨dopRun none (cop P o) (readsOf all o)⟩ := by
    unfold dopC
    rw [show (dstFine nt o.dst && smallT (readsOf all o)) = true from by rw [h1, h2]; rfl, hg]
    rfl
  rw [key] at he ⊢
  simp only [dopRun] at he ⊢
  have hcop : ∀ H, (cop P o).run call (trimR r (readsOf all o)) H = orHeap .bad ((storeC P t).run H ((evC x).run (trimR r (readsOf all o))) ((evC y).run (trimR r (readsOf all o)))) := by
    intro H
    unfold cop
    rw [ho]
  rw [hcop] at he
  cases hs : (storeC P t).run h ((evC x).run (trimR r (readsOf all o))) ((evC y).run (trimR r (readsOf all o))) with
  | none => rw [hs] at he; cases he
  | some h3 =>
    rw [hs] at he
    simp only [orHeap, OR.val.injEq] at he
    obtain ⟨rfl, rfl⟩ := he
    unfold storeC at hs
    cases ht : tiOf P t with
    | none => rw [ht] at hs; cases hs
    | some ti =>
      rw [ht] at hs
      simp only [storeV] at hs
      obtain ⟨b, off, hp, h4⟩ := onPtr_some hs
      obtain ⟨hc, h5⟩ := cond_some h4
      obtain ⟨k, k1, k2⟩ := lay_shape h5
      refine ⟨b, off, k, hp, k1, fun H hH => ?_⟩
      rw [hcop]
      unfold storeC
      rw [ht]
      simp only [storeV, hp, V.onPtr, hc, cond_true, k2 H hH, orHeap]
theorem ready_nil {listed : Array Bool} (hon : ∀ i o, ops[i]? = some o → onFine i o = true) (hsz : listed.size = ops.size) (hr : Region.ready .any ops listed = []) : ∀ i, i < ops.size → listed.getD i false = true := by
  intro i
  induction i using Nat.strongRecOn with
  | _ i ih =>
    intro hi
    cases hli : listed.getD i false with
    | true => rfl
    | false =>
      exfalso
      have hio : ops[i]? = some ops[i] := Array.getElem?_eq_getElem hi
      have hon := hon i _ hio
      have : i ∈ Region.ready .any ops listed := by
        rw [mem_ready]
        refine ⟨?_, ops[i], hio, fun e he hb => ?_⟩
        · have hs : i < listed.size := by rw [hsz]; exact hi
          rw [Array.getD_eq_getD_getElem?, Array.getElem?_eq_getElem hs] at hli ⊢
          exact hli
        · have h1 := List.all_eq_true.1 hon e (Array.mem_toList_iff.2 he)
          rw [binds_eq] at hb
          rw [hb] at h1
          simp only [Bool.not_true, Bool.false_or, Nat.blt_eq] at h1
          exact ih e.on h1 (by omega)
      rw [hr] at this
      simp at this
theorem ready_not {listed : Array Bool} {i : Nat} (_hsz : listed.size = ops.size) (hi : i ∈ Region.ready .any ops listed) : i < ops.size ∧ ¬ listed.getD i false = true := by
  rw [mem_ready] at hi
  obtain ⟨h1, o, h2, _⟩ := hi
  refine ⟨(Array.getElem?_eq_some_iff.1 h2).1, fun h => ?_⟩
  rw [getD_iff] at h
  rw [Array.getD_eq_getD_getElem?, h] at h1
  simp at h1
theorem tail_one {rd : Option Nat} {w0 : Fr} (hN : NamesOk P) (hcall : CallOk P call) (hbody : CallBody P call) (hon : ∀ i o, ops[i]? = some o → onFine i o = true) {i : Nat} {o : Oper} (hio : ops[i]? = some o) (hd : o.dst = none) {r : Regs} {h h' : Heap} {v : V}
    (he : (dopC P nt ops o).run call r h = .val v h') {Q : Exit → Act → World → Prop} {E : Env} {a : Act} {w : World} (k : RegRel E nt r a) (s : Sim w0 E h w) (hQ : ∀ E' w', E.le E' → Sim w0 E' h' w' → Q .normal a w')
    {listed : Array Bool} (hsz : listed.size = ops.size) (hall : ∀ j, j < ops.size → (listed.getD j false = true ↔ j ≠ i)) (fuel : Nat) (hf : 1 ≤ fuel) : wpAnyIn (Wd rd) 0 P .any ops Q fuel listed a w := by
  have hin : i < ops.size := (Array.getElem?_eq_some_iff.1 hio).1
  have hli : i < listed.size := by rw [hsz]; exact hin
  cases fuel with
  | zero => omega
  | succ fuel =>
    refine ⟨fun hr => absurd (ready_nil hon hsz hr i hin) (fun h => ((hall i hin).1 h) rfl), fun j hj => ?_⟩
    obtain ⟨j1, j2⟩ := ready_not hsz hj
    have hji : j = i := by
      rcases Nat.decEq j i with hne | he
      · exact absurd ((hall j j1).2 hne) j2
      · exact he
    subst hji
    refine dop_sound hN hcall hbody hio he k.size (fun t ht => k.reg t (Nat.le_of_ble_eq_true (List.all_eq_true.1 (dopC_fine he).2 t ht))) s fun E' x w' q1 q2 q3 => ?_
    rw [hd]
    refine wpAnyIn_done ?_ (hQ E' w' q1 q3) fuel
    cases hr : Region.ready .any ops (listed.setIfInBounds j true) with
    | nil => rfl
    | cons m ms =>
      exfalso
      have hm : m ∈ Region.ready .any ops (listed.setIfInBounds j true) := by rw [hr]; simp
      obtain ⟨m1, m2⟩ := ready_not (by simp [hsz]) hm
      refine m2 ((getD_set hli).2 ?_)
      by_cases hmj : m = j
      · exact .inl hmj
      · exact .inr ((hall m m1).2 hmj)
theorem tail_two {rd : Option Nat} {w0 : Fr} (hN : NamesOk P) (hcall : CallOk P call) (hbody : CallBody P call) (hon : ∀ i o, ops[i]? = some o → onFine i o = true) {i j : Nat} {o p : Oper} (hio : ops[i]? = some o) (hjp : ops[j]? = some p) (hij : i ≠ j) (hd : o.dst = none) (hpd : p.dst = none)
    {r : Regs} {h h1 h1' h2 : Heap} {v v' u u' : V} (he : (dopC P nt ops o).run call r h = .val v h1) (hp : (dopC P nt ops p).run call r h1 = .val u h2) (hp' : (dopC P nt ops p).run call r h = .val u' h1') (he' : (dopC P nt ops o).run call r h1' = .val v' h2)
    {Q : Exit → Act → World → Prop} {E : Env} {a : Act} {w : World} (k : RegRel E nt r a) (s : Sim w0 E h w) (hQ : ∀ E' w', E.le E' → Sim w0 E' h2 w' → Q .normal a w')
    {listed : Array Bool} (hsz : listed.size = ops.size) (hall : ∀ m, m < ops.size → (listed.getD m false = true ↔ (m ≠ i ∧ m ≠ j))) (fuel : Nat) (hf : 2 ≤ fuel) : wpAnyIn (Wd rd) 0 P .any ops Q fuel listed a w := by
  have hin : i < ops.size := (Array.getElem?_eq_some_iff.1 hio).1
  have hjn : j < ops.size := (Array.getElem?_eq_some_iff.1 hjp).1
  have hreads : ∀ {q : Oper} {H H' : Heap} {z : V}, (dopC P nt ops q).run call r H = .val z H' → ∀ t ∈ readsOf ops q, Rel E (T.get .bad (pa t) r) (a.tmps.getD t undef) :=
    fun he t ht => k.reg t (Nat.le_of_ble_eq_true (List.all_eq_true.1 (dopC_fine he).2 t ht))
  cases fuel with
  | zero => omega
  | succ fuel =>
    refine ⟨fun hr => absurd (ready_nil hon hsz hr i hin) (fun h => ((hall i hin).1 h).1 rfl), fun m hm => ?_⟩
    obtain ⟨m1, m2⟩ := ready_not hsz hm
    have hor : m = i ∨ m = j := by
      rcases Nat.decEq m i with hne | he
      · rcases Nat.decEq m j with hne2 | he2
        · exact absurd ((hall m m1).2 ⟨hne, hne2⟩) m2
        · exact .inr he2
      · exact .inl he
    rcases hor with rfl | rfl
    · refine dop_sound hN hcall hbody hio he k.size (hreads he) s fun E' x w' q1 q2 q3 => ?_
      rw [hd]
      have hli : m < listed.size := by rw [hsz]; exact hin
      refine tail_one hN hcall hbody hon hjp hpd hp (k.mono q1) q3 (fun E2 w2 p1 p2 => hQ E2 w2 (q1.trans p1) p2) (by simp [hsz]) (fun z hz => ?_) fuel (by omega)
      rw [getD_set hli, hall z hz]
      constructor
      · rintro (rfl | h)
        · exact hij
        · exact h.2
      · intro h
        by_cases hzm : z = m
        · exact .inl hzm
        · exact .inr ⟨hzm, h⟩
    · refine dop_sound hN hcall hbody hjp hp' k.size (hreads hp') s fun E' x w' q1 q2 q3 => ?_
      rw [hpd]
      have hli : m < listed.size := by rw [hsz]; exact hjn
      refine tail_one hN hcall hbody hon hio hd he' (k.mono q1) q3 (fun E2 w2 p1 p2 => hQ E2 w2 (q1.trans p1) p2) (by simp [hsz]) (fun z hz => ?_) fuel (by omega)
      rw [getD_set hli, hall z hz]
      constructor
      · rintro (rfl | h)
        · exact fun e => hij e.symm
        · exact h.1
      · intro h
        by_cases hzm : z = m
        · exact .inl hzm
        · exact .inr ⟨h, hzm⟩
theorem wpAnyIn_region {rd : Option Nat} {id : Nat} {a : Act} {w : World} {Q : Exit → Act → World → Prop} (hm : P.follows .mixedOrders = true)
    (h : wpAnyIn (Wd rd) 0 P .any ops Q ops.size (Array.replicate ops.size false) a { w with drawn := w.drawn + 1 }) : (Code.region id ops true).wpIn (Wd rd) 0 P Q a w := by
  refine wpIn_region_draw fun t => ?_
  rw [hm]
  exact wpAnyIn_sound _ _ _ _ _ h
theorem trimR_congr {r r' : Regs} : ∀ {rs : List Nat}, (∀ t ∈ rs, T.get .bad (pa t) r' = T.get .bad (pa t) r) → trimR r' rs = trimR r rs
  | [], _ => rfl
  | t :: ts, h => by
    simp only [trimR]
    rw [h t (by simp), trimR_congr (rs := ts) fun u hu => h u (by simp [hu])]
theorem dopC_congr {all : Array Oper} {o : Oper} {call : CallF} {r r' : Regs} (h : ∀ t ∈ readsOf all o, T.get .bad (pa t) r' = T.get .bad (pa t) r) (H : Heap) : (dopC P nt all o).run call r' H = (dopC P nt all o).run call r H := by
  unfold dopC
  cases hc : (dstFine nt o.dst && smallT (readsOf all o)) with
  | false => rfl
  | true =>
    simp only [cond_true]
    cases hg : o.guard with
    | none => simp only [dopRun, trimR_congr h]
    | some jw =>
      obtain ⟨j, want⟩ := jw
      simp only
      cases all[j]? with
      | none => rfl
      | some g =>
        simp only
        cases g.dst with
        | none => rfl
        | some d =>
          simp only
          cases (Nat.blt d nt && Nat.ble d top) with
          | false => rfl
          | true => simp only [cond_true, dopRun, trimR_congr h]
theorem tail_three {rd : Option Nat} {w0 : Fr} (hN : NamesOk P) (hcall : CallOk P call) (hbody : CallBody P call) (hon : ∀ i o, ops[i]? = some o → onFine i o = true) {l i j : Nat} {b o p : Oper} (hlb : ops[l]? = some b) (hio : ops[i]? = some o) (hjp : ops[j]? = some p)
    (hli : l ≠ i) (hlj : l ≠ j) (hij : i ≠ j) (hd : o.dst = none) (hpd : p.dst = none) {r r1 : Regs} {h h1 h1' h2 : Heap} {z v v' u u' : V}
    (hb : ∀ H, (dopC P nt ops b).run call r H = .val z H) (hr1 : r1 = (putC b.dst).run r z) (hsame : ∀ t ∈ readsOf ops p, T.get .bad (pa t) r1 = T.get .bad (pa t) r)
    (he : (dopC P nt ops o).run call r1 h = .val v h1) (hp : (dopC P nt ops p).run call r1 h1 = .val u h2) (hp' : (dopC P nt ops p).run call r1 h = .val u' h1') (he' : (dopC P nt ops o).run call r1 h1' = .val v' h2)
    {Q : Exit → Act → World → Prop} {E : Env} {a : Act} {w : World} (k : RegRel E nt r a) (s : Sim w0 E h w) (hQ : ∀ E' a' w', E.le E' → RegRel E' nt r1 a' → Sim w0 E' h2 w' → Q .normal a' w')
    {listed : Array Bool} (hsz : listed.size = ops.size) (hD : DownP ops fun k => listed.getD k false = true) (hwait : ∀ mi, (masksFrom [] ops.toList)[i]? = some mi → bitB mi l = true) (hmi : ∃ mi, (masksFrom [] ops.toList)[i]? = some mi)
    (hall : ∀ m, m < ops.size → (listed.getD m false = true ↔ (m ≠ l ∧ m ≠ i ∧ m ≠ j))) (fuel : Nat) (hf : 3 ≤ fuel) : wpAnyIn (Wd rd) 0 P .any ops Q fuel listed a w := by
  have hln : l < ops.size := (Array.getElem?_eq_some_iff.1 hlb).1
  have hin : i < ops.size := (Array.getElem?_eq_some_iff.1 hio).1
  have hjn : j < ops.size := (Array.getElem?_eq_some_iff.1 hjp).1
  have hreads : ∀ {E : Env} {a : Act} {q : Oper} {R : Regs} {H H' : Heap} {z : V}, RegRel E nt R a → (dopC P nt ops q).run call R H = .val z H' → ∀ t ∈ readsOf ops q, Rel E (T.get .bad (pa t) R) (a.tmps.getD t undef) :=
    fun k he t ht => k.reg t (Nat.le_of_ble_eq_true (List.all_eq_true.1 (dopC_fine he).2 t ht))
  have notI : ∀ (L : Array Bool), (DownP ops fun k => L.getD k false = true) → ¬ L.getD l false = true → i ∈ Region.ready .any ops L → False := by
    intro L hDL hnl hmem
    rw [mem_ready] at hmem
    obtain ⟨_, o', ho', hedges⟩ := hmem
    rw [hio] at ho'; cases ho'
    obtain ⟨mi, hmi⟩ := hmi
    have hD' : DownP ops fun k => L.getD k false = true ∨ k = i := by
      intro k ok e hk hok he hb
      rcases hk with hk | rfl
      · exact .inl (hDL k ok e hk hok he hb)
      · rw [hio] at hok; cases hok
        exact .inl (hedges e (Array.mem_toList_iff.1 he) (by rw [binds_eq]; exact hb))
    rcases masksFrom_ok hD' ops.toList [] (fun j => by simp) (fun k m j hk => by simp at hk) i mi l hmi (hwait mi hmi) (.inr rfl) with h | h
    · exact hnl h
    · exact hli h
  have downSet : ∀ m, m ∈ Region.ready .any ops listed → DownP ops fun k => (listed.setIfInBounds m true).getD k false = true := by
    intro m hm k ok e hk hok he hb
    have hm2 := hm
    rw [mem_ready] at hm2
    obtain ⟨_, om, hom, hedges⟩ := hm2
    have hml : m < listed.size := by rw [hsz]; exact (Array.getElem?_eq_some_iff.1 hom).1
    rw [getD_set hml] at hk ⊢
    rcases hk with rfl | hk
    · rw [hom] at hok; cases hok
      exact .inr (hedges e (Array.mem_toList_iff.1 he) (by rw [binds_eq]; exact hb))
    · exact .inr (hD k ok e hk hok he hb)
  cases fuel with
  | zero => omega
  | succ fuel =>
    refine ⟨fun hr => absurd (ready_nil hon hsz hr i hin) (fun h => ((hall i hin).1 h).2.1 rfl), fun m hm => ?_⟩
    obtain ⟨m1, m2⟩ := ready_not hsz hm
    have hor : m = l ∨ m = j := by
      rcases Nat.decEq m l with n1 | e1
      · rcases Nat.decEq m j with n2 | e2
        · rcases Nat.decEq m i with n3 | e3
          · exact absurd ((hall m m1).2 ⟨n1, n3, n2⟩) m2
          · subst e3
            exact (notI listed hD (fun h => ((hall l hln).1 h).1 rfl) hm).elim
        · exact .inr e2
      · exact .inl e1
    rcases hor with rfl | rfl
    · -- p first
      have hlm : m < listed.size := by rw [hsz]; exact hln
      refine dop_sound hN hcall hbody hlb (hb h) k.size (hreads k (hb h)) s fun E' x w' q1 q2 q3 => ?_
      have k1 : RegRel E' nt r1 (a.put b.dst x) := by rw [hr1]; exact (k.mono q1).put (dopC_fine (hb h)).1 q2
      refine tail_two hN hcall hbody hon hio hjp hij hd hpd he hp hp' he' k1 q3 (fun E2 w2 p1 p2 => hQ E2 _ w2 (q1.trans p1) (k1.mono p1) p2) (by simp [hsz]) (fun y hy => ?_) fuel (by omega)
      rw [getD_set hlm, hall y hy]
      constructor
      · rintro (rfl | h)
        · exact ⟨hli, hlj⟩
        · exact h.2
      · intro h
        by_cases hym : y = m
        · exact .inl hym
        · exact .inr ⟨hym, h⟩
    · -- q first
      have hlm : m < listed.size := by rw [hsz]; exact hjn
      have hp0 : (dopC P nt ops p).run call r h = .val u' h1' := by rw [← dopC_congr hsame]; exact hp'
      have hDm := downSet m hm
      refine dop_sound hN hcall hbody hjp hp0 k.size (hreads k hp0) s fun E' x w' q1 q2 q3 => ?_
      rw [hpd]
      have hsz1 : (listed.setIfInBounds m true).size = ops.size := by simp [hsz]
      cases fuel with
      | zero => omega
      | succ fuel =>
        refine ⟨fun hr => absurd (ready_nil hon hsz1 hr i hin) (fun h => ?_), fun y hy => ?_⟩
        · rcases (getD_set hlm).1 h with e | h
          · exact hij e
          · exact ((hall i hin).1 h).2.1 rfl
        obtain ⟨y1, y2⟩ := ready_not hsz1 hy
        have hyl : y = l := by
          rcases Nat.decEq y l with n1 | e1
          · rcases Nat.decEq y i with n3 | e3
            · exfalso
              refine y2 ((getD_set hlm).2 ?_)
              by_cases hym : y = m
              · exact .inl hym
              · exact .inr ((hall y y1).2 ⟨n1, n3, hym⟩)
            · subst e3
              refine (notI _ hDm (fun h => ?_) hy).elim
              rcases (getD_set hlm).1 h with e | h
              · exact hlj e
              · exact ((hall l hln).1 h).1 rfl
          · exact e1
        subst hyl
        have k' := k.mono q1
        refine dop_sound hN hcall hbody hlb (hb h1') k'.size (hreads k' (hb h1')) q3 fun E2 x2 w2 t1 t2 t3 => ?_
        have k1 : RegRel E2 nt r1 (a.put b.dst x2) := by rw [hr1]; exact (k'.mono t1).put (dopC_fine (hb h)).1 t2
        have hly : y < (listed.setIfInBounds m true).size := by rw [hsz1]; exact hln
        refine tail_one hN hcall hbody hon hio hd he' k1 t3 (fun E3 w3 p1 p2 => hQ E3 _ w3 (q1.trans (t1.trans p1)) (k1.mono p1) p2) (by simp [hsz]) (fun g hg => ?_) fuel (by omega)
        rw [getD_set hly, getD_set hlm, hall g hg]
        constructor
        · rintro (rfl | rfl | h)
          · exact hli
          · exact fun e => hij e.symm
          · exact h.2.1
        · intro h
          by_cases e1 : g = y
          · exact .inl e1
          · by_cases e2 : g = m
            · exact .inr (.inl e2)
            · exact .inr (.inr ⟨e1, h, e2⟩)
theorem draw_fin {rd : Option Nat} {w0 : Fr} {E : Env} {h : Heap} {w : World} {id : Nat} (hM : P.follows .mixedOrders = true) (hN : NamesOk P) (hcall : CallOk P call) (hbody : CallBody P call) {r : Regs} {a : Act}
    {Q : Exit → Act → World → Prop} (k : RegRel E nt r a) (s : Sim w0 E h w) {es : List Ent} {rr : Regs} {hh : Heap} {order poss starts : List Nat} {N M : Nat} (C : Cert P nt ops (fun _ => call) es r h rr hh starts order poss N M false)
    (hQ : N = ops.size → ∀ E' a' w', E.le E' → RegRel E' nt rr a' → Sim w0 E' hh w' → Q .normal a' w')
    (hP : ∀ E' a' w' x v h', E.le E' → N < ops.size → ops.size ≤ M → (∃ i0 o0, ops[i0]? = some o0 ∧ posOf poss i0 = N ∧ (dopC P nt ops o0).run call rr hh = .pan v h') → RegRel E' nt (eraseR r ops.toList) a' → Rel E' v x → Sim w0 E' h' w' → Q (.panic (panic1 x)) a' w')
    (hT : M < ops.size → ∀ (fuel : Nat) (listed : Array Bool) E' a' w', (List.range ops.size).countP (fun i => !listed.getD i false) ≤ fuel → listed.size = ops.size → DownP ops (fun k => listed.getD k false = true) → (∀ k, k < ops.size → (listed.getD k false = true ↔ posOf poss k < N)) →
          E.le E' → RegRel E' nt rr a' → Sim w0 E' hh w' → wpAnyIn (Wd rd) 0 P .any ops Q fuel listed a' w') :
    (Code.region id ops true).wpIn (Wd rd) 0 P Q a w := by
  have hnone : ∀ k, ¬ (Array.replicate ops.size false).getD k false = true := by
    intro k
    rw [getD_iff, Array.getElem?_replicate]
    split <;> simp
  have hheld : Holds w0 w0 es hh poss (Held ops es hh poss (Array.replicate ops.size false) 0) :=
    ⟨rfl, fun _ _ => rfl, fun k hk => (by obtain ⟨_, _, _, _, h0⟩ := hk; omega), fun k k' hk => (by obtain ⟨_, _, _, _, h0⟩ := hk; omega)⟩
  obtain ⟨s', F', g1, g2, g3, g4, g5, g6⟩ := C.advance N 0 (by omega) (fun k o _ _ _ => hnone k) w0 hheld (E := E) (w := { w with drawn := w.drawn }) (by rw [C.h0]; exact s.same rfl rfl rfl rfl)
  have hdf : ∀ (E' : Env) (a' : Act), E.le E' → a'.defers = a.defers → ∀ (r' : Regs), T.get .bad dslot r' = T.get .bad dslot r → DRel E' (T.get .bad dslot r') a'.defers := fun E' a' he hd r' hr' => by rw [hr', hd]; exact k.defers.mono he
  have hdsl : T.get .bad dslot rr = T.get .bad dslot r := by
    have := C.dsl N (Nat.le_refl _)
    have hnn : es[N]? = none := List.getElem?_eq_none (by rw [C.len]; exact Nat.le_refl _)
    simpa [regAt, hnn] using this
  refine wpAnyIn_region hM (draw_any hN (fun _ => hcall) (fun _ => hbody) C (E0 := E) (D := a.defers)
    (fun hn E' a' w' q1 q2 q3 q4 => hQ hn E' a' w' q1 ⟨q2, hdf E' a' q1 q3 rr hdsl⟩ q4)
    (fun E' a' w' x v h' q1 q2 q2' q3 q4 q5 q6 q7 => hP E' a' w' x v h' q1 q2 q2' q3 ⟨q4, hdf E' a' q1 q5 _ eraseR_dslot⟩ q6 q7)
    (fun g0 fuel listed E' a' w' g1 g2 g3 g4 q1 q2 q3 q4 => hT g0 fuel listed E' a' w' g1 g2 g3 g4 q1 ⟨q2, hdf E' a' q1 q3 rr hdsl⟩ q4) ops.size _ a _ ?_ ?_)
  · exact Nat.le_trans List.countP_le_length (by simp)
  · refine ⟨by simp, k.size, rfl, fun k' hk => absurd hk (hnone k'), fun k' o e hk => absurd hk (hnone k'), E, s', F', Env.le.refl E, g1, g3, fun k' o h1 h2 => ⟨fun h => absurd h (hnone k'), fun h => by have := g4 k' o h1 h2 (Nat.zero_le _); omega⟩,
      fun k' o _ _ h => absurd h (hnone k'), g5, ?_, fun t ht => .inr ⟨fun k' o hk => absurd hk (hnone k'), k.reg t ht⟩⟩
    exact g6.same rfl rfl rfl rfl
theorem permOk_spec {n : Nat} {order poss : List Nat} (hperm : permOk n order poss = true) : order.length = n ∧ (∀ k, k < n → posOf poss k < n ∧ order[posOf poss k]? = some k) ∧ ∀ p, p < n → ∃ i, i < n ∧ posOf poss i = p := by
  unfold permOk at hperm
  simp only [Bool.and_eq_true, Nat.beq_eq] at hperm
  obtain ⟨ho1, ho2, ho3, ho4⟩ := hperm
  refine ⟨ho1, fun k hk => ?_, fun p hp => ?_⟩
  · have hg : poss[k]? = some (posOf poss k) := by
      unfold posOf
      rw [List.getElem?_eq_getElem (by omega)]
      rfl
    have := permAt_get ho3 hg
    rw [Nat.zero_add] at this
    exact ⟨by have := (List.getElem?_eq_some_iff.1 this).1; omega, this⟩
  · have hg : order[p]? = some (order[p]'(by omega)) := List.getElem?_eq_getElem (by omega)
    have := permAt_get ho4 hg
    rw [Nat.zero_add] at this
    refine ⟨order[p]'(by omega), by have := (List.getElem?_eq_some_iff.1 this).1; omega, ?_⟩
    unfold posOf
    rw [this]
    rfl
theorem tailFine_spec {order poss : List Nat} (hf : tailFine P ops order poss = true) : 3 ≤ ops.size ∧ ∀ i o, ops[i]? = some o → ∃ mi, (masksFrom [] ops.toList)[i]? = some mi ∧ onFine i o = true ∧
    (posOf poss i < ops.size - 3 → ∀ k ok, ops[k]? = some ok → posOf poss k < ops.size - 3 → ∃ mk, (masksFrom [] ops.toList)[k]? = some mk ∧ pairFine i mi (readsOf ops o) o.dst k mk ok (Nat.blt (posOf poss k) (posOf poss i)) = true ∧ (isEff P o.op = true → isChain P ok = true → posOf poss k < posOf poss i → bitB mi k = true)) ∧
    (¬ posOf poss i < ops.size - 3 → tailOne P ops order poss (ops.size - 3) i mi o = true) := by
  unfold tailFine at hf
  simp only [Bool.and_eq_true, Nat.ble_eq] at hf
  refine ⟨hf.1, fun i o hi => ?_⟩
  obtain ⟨mi, h1, h2⟩ := zipAll_get hf.2 i o (by simpa using hi)
  simp only [Nat.zero_add, Bool.and_eq_true] at h2
  refine ⟨mi, h1, h2.1, fun hlt k ok hk hkl => ?_, fun hge => ?_⟩
  · have h3 := h2.2
    rw [show Nat.blt (posOf poss i) (ops.size - 3) = true from by rw [Nat.blt_eq]; exact hlt] at h3
    simp only [cond_true] at h3
    obtain ⟨mk, k1, k2⟩ := zipAll_get h3 k ok (by simpa using hk)
    simp only [Nat.zero_add] at k2
    rw [show Nat.blt (posOf poss k) (ops.size - 3) = true from by rw [Nat.blt_eq]; exact hkl] at k2
    simp only [cond_true, Bool.and_eq_true] at k2
    refine ⟨mk, k1, k2.1, fun e1 e2 hlt => ?_⟩
    have k3 := k2.2
    rw [e1, e2, Bool.true_and, show Nat.blt (posOf poss k) (posOf poss i) = true from by rw [Nat.blt_eq]; exact hlt] at k3
    exact k3
  · have h3 := h2.2
    rw [show Nat.blt (posOf poss i) (ops.size - 3) = false from by rw [← Bool.not_eq_true, Nat.blt_eq]; exact hge] at h3
    exact h3
theorem tailOne_spec {order poss : List Nat} {N i mi p : Nat} {o po : Oper} (hp : order[N]? = some p) (hpo : ops[p]? = some po) (h : tailOne P ops order poss N i mi o = true) :
    (∀ k, k < ops.size → posOf poss k < N → bitB mi k = true) ∧ (posOf poss i = N → isEff P o.op = false ∧ looks o.op = false) ∧ (posOf poss i ≠ N → ∃ x, storePtr o = some x) ∧
    (posOf poss i = N + 1 → bitB mi p = true) ∧ (posOf poss i = N + 2 → ∀ t ∈ readsOf ops o, po.dst ≠ some t) := by
  unfold tailOne at h
  rw [hp] at h
  simp only [Bool.and_eq_true] at h
  obtain ⟨⟨h1, h2⟩, h3, h4⟩ := h
  refine ⟨fun k hk hkN => ?_, fun e => ?_, fun e => ?_, fun e => ?_, fun e t ht => ?_⟩
  · obtain ⟨mk, k1, k2⟩ := zipAll_get h1 k ops[k] (by simp)
    simp only [Nat.zero_add] at k2
    rw [show Nat.blt (posOf poss k) N = true from by rw [Nat.blt_eq]; exact hkN] at k2
    exact k2
  · rw [cond_beq, if_pos e] at h2
    simpa using h2
  · rw [cond_beq, if_neg e] at h2
    exact Option.isSome_iff_exists.1 h2
  · rw [cond_beq, if_pos e] at h3
    exact h3
  · rw [cond_beq, if_pos e, hpo] at h4
    simp only at h4
    intro hd
    rw [hd] at h4
    simp only [Bool.not_eq_true'] at h4
    rw [show (readsOf ops o).contains t = true from by simpa using ht] at h4
    cases h4
theorem heapAt_take {es : List Ent} {hh : Heap} {N p : Nat} (hp : p ≤ N) : heapAt (es.take N) (heapAt es hh N) p = heapAt es hh p := by
  by_cases h : p < N
  · cases he : es[p]? with
    | some e => simp [heapAt, h, he]
    | none =>
      have hn : es[N]? = none := List.getElem?_eq_none (by have := List.getElem?_eq_none_iff.1 he; omega)
      simp [heapAt, h, he, hn]
  · have : p = N := by omega
    subst this
    simp [heapAt, List.getElem?_take]
theorem regAt_take {es : List Ent} {rr : Regs} {N p : Nat} (hp : p ≤ N) : regAt (es.take N) (regAt es rr N) p = regAt es rr p := by
  by_cases h : p < N
  · cases he : es[p]? with
    | some e => simp [regAt, h, he]
    | none =>
      have hn : es[N]? = none := List.getElem?_eq_none (by have := List.getElem?_eq_none_iff.1 he; omega)
      simp [regAt, h, he, hn]
  · have : p = N := by omega
    subst this
    simp [regAt, List.getElem?_take]
theorem apartAt_spec {order : List Nat} {es : List Ent} {N i j : Nat} {o p : Oper} {e f : Ent} {x y : Operand} (ha : apartAt ops order es N = true) (hi : order[N]? = some i) (hj : order[N + 1]? = some j) (hio : ops[i]? = some o) (hjp : ops[j]? = some p)
    (he : es[N]? = some e) (hf : es[N + 1]? = some f) (hx : storePtr o = some x) (hy : storePtr p = some y) {b c : Pa} {off off' : Nat} (hb : (evC x).run (trimR e.r (readsOf ops o)) = .ptr b off) (hc : (evC y).run (trimR f.r (readsOf ops p)) = .ptr c off') : b ≠ c := by
  unfold apartAt storesAt at ha
  simp only [hi, hj, hio, hjp, he, hf, hx, hy, hb, hc] at ha
  intro h
  subst h
  rw [Pa.eqB_refl] at ha
  cases ha
set_option maxHeartbeats 2000000 in
theorem drawT_sound {rd : Option Nat} {w0 : Fr} {E : Env} {h : Heap} {w : World} {id : Nat} (hM : P.follows .mixedOrders = true) (hN : NamesOk P) (hcall : CallOk P call) (hbody : CallBody P call) {r : Regs} {a : Act} {order poss : List Nat} (hperm : permOk ops.size order poss = true) (hfine : tailFine P ops order poss = true)
    {Q : Exit → Act → World → Prop} (hp : PostR w0 E nt (Q .normal) Q (drawRunT ops order (stepsD P nt ops (opsAt ops order)) (asksC P nt ops (masksFrom [] ops.toList) poss (levelStarts P poss 0 ops.toList) 0 ops.toList) call r h)) (k : RegRel E nt r a) (s : Sim w0 E h w) : (Code.region id ops true).wpIn (Wd rd) 0 P Q a w := by
  obtain ⟨ho1, posLt, ordAt⟩ := permOk_spec hperm
  obtain ⟨h2, hfine⟩ := tailFine_spec hfine
  unfold drawRunT at hp
  cases hst : (stepsD P nt ops (opsAt ops order)).run call r h with
  | fail => rw [hst] at hp; exact hp.elim
  | pan _ _ _ _ _ => rw [hst] at hp; exact hp.elim
  | ok es rr hh =>
    rw [hst] at hp
    simp only at hp
    obtain ⟨N, hNd⟩ : ∃ N, N = ops.size - 3 := ⟨_, rfl⟩
    rw [← hNd] at hp hfine
    cases hq : (apartAt ops order es (N + 1) && (asksC P nt ops (masksFrom [] ops.toList) poss (levelStarts P poss 0 ops.toList) 0 ops.toList).run call (es.take N) (heapAt es hh N)) with
    | false => rw [hq] at hp; exact hp.elim
    | true =>
      rw [hq] at hp
      simp only [cond_true] at hp
      simp only [Bool.and_eq_true] at hq
      obtain ⟨hapart, hasks⟩ := hq
      obtain ⟨q1, q2, q3, q4⟩ := stepsD_spec hst
      have hlen : es.length = ops.size := by rw [q1, opsAt_length, ho1]
      have inj : ∀ i j, i < ops.size → j < ops.size → posOf poss i = posOf poss j → i = j := by
        intro i j hi hj he
        have a := (posLt i hi).2
        have b := (posLt j hj).2
        rw [he, b] at a
        cases a
        rfl
      obtain ⟨iL, hL1, hL2⟩ := ordAt N (by omega)
      obtain ⟨iA, hA1, hA2⟩ := ordAt (N + 1) (by omega)
      obtain ⟨iB, hB1, hB2⟩ := ordAt (N + 2) (by omega)
      have hioL : ops[iL]? = some ops[iL] := Array.getElem?_eq_getElem hL1
      have hioA : ops[iA]? = some ops[iA] := Array.getElem?_eq_getElem hA1
      have hioB : ops[iB]? = some ops[iB] := Array.getElem?_eq_getElem hB1
      have hordL := (posLt iL hL1).2
      have hordA := (posLt iA hA1).2
      have hordB := (posLt iB hB1).2
      rw [hL2] at hordL
      rw [hA2] at hordA
      rw [hB2] at hordB
      have htail : ∀ i o, ops[i]? = some o → ¬ posOf poss i < N → ∃ mi, (masksFrom [] ops.toList)[i]? = some mi ∧ (∀ k, k < ops.size → posOf poss k < N → bitB mi k = true) ∧ (posOf poss i = N → isEff P o.op = false ∧ looks o.op = false) ∧ (posOf poss i ≠ N → ∃ x, storePtr o = some x) ∧
          (posOf poss i = N + 1 → bitB mi iL = true) ∧ (posOf poss i = N + 2 → ∀ t ∈ readsOf ops o, ops[iL].dst ≠ some t) := by
        intro i o hi hge
        obtain ⟨mi, z1, _, _, z4⟩ := hfine i o hi
        exact ⟨mi, z1, tailOne_spec hordL hioL (z4 hge)⟩
      obtain ⟨mL, _, _, tL, _⟩ := htail iL _ hioL (by omega)
      obtain ⟨mA, hmA, _, _, tA, wA, _⟩ := htail iA _ hioA (by omega)
      obtain ⟨mB, hmB, _, _, tB, _, rB⟩ := htail iB _ hioB (by omega)
      obtain ⟨effL, lookL⟩ := tL hL2
      obtain ⟨xA, hxA⟩ := tA (by omega)
      obtain ⟨xB, hxB⟩ := tB (by omega)
      have wA := wA hA2
      have rB := rB hB2
      obtain ⟨eL, l1, l2, l3⟩ := q4 _ _ (opsAt_get hordL hioL)
      obtain ⟨eA, a1, a2, a3⟩ := q4 _ _ (opsAt_get hordA hioA)
      obtain ⟨eB, b1, b2, b3⟩ := q4 _ _ (opsAt_get hordB hioB)
      obtain ⟨tyA, yA, oA, dA, gA⟩ := storePtr_eq hxA
      obtain ⟨tyB, yB, oB, dB, gB⟩ := storePtr_eq hxB
      have hnone : es[N + 2 + 1]? = none := List.getElem?_eq_none (by omega)
      have hlast : heapAt es hh (N + 2 + 1) = hh := by simp [heapAt, hnone]
      have rlast : regAt es rr (N + 2 + 1) = rr := by simp [regAt, hnone]
      have hNL : heapAt es hh N = eL.h := by simp [heapAt, l1]
      have rNL : regAt es rr N = eL.r := by simp [regAt, l1]
      have hNA : heapAt es hh (N + 1) = eA.h := by simp [heapAt, a1]
      have rNA : regAt es rr (N + 1) = eA.r := by simp [regAt, a1]
      have hNB : heapAt es hh (N + 1 + 1) = eB.h := by simp [heapAt, b1]
      have rNB : regAt es rr (N + 1 + 1) = eB.r := by simp [regAt, b1]
      rw [rNA] at l3
      rw [hNA] at l2
      rw [dA, rNB] at a3
      rw [dB, rlast] at b3
      simp only [putC] at a3 b3
      rw [hNB] at a2
      rw [hlast] at b2
      obtain ⟨hLh, hLany⟩ := dop_quiet effL l2
      have hLany := hLany lookL
      obtain ⟨bA, oaA, kA, pA, sA, uA⟩ := dop_store hxA a2
      obtain ⟨bB, oaB, kB, pB, sB, uB⟩ := dop_store hxB b2
      have hne : bA ≠ bB := apartAt_spec hapart hordA hordB hioA hioB a1 b1 hxA hxB pA pB
      have hB0 := uB eA.h (by rw [sA, Heap.get_set, if_neg hne])
      have hA0 := uA (eA.h.set bB kB) (by rw [Heap.get_set, if_neg (fun e => hne e.symm)])
      have hcomm : (eA.h.set bB kB).set bA kA = hh := by rw [Heap.set_comm _ (fun e => hne e.symm), ← sA, ← sB]
      rw [hcomm] at hA0
      rw [a3] at hB0 b2
      have hrr : rr = eA.r := b3.trans a3
      have hnN : ∀ m, m < ops.size → (posOf poss m < N ↔ (m ≠ iL ∧ m ≠ iA ∧ m ≠ iB)) := by
        intro m hm
        have hpm := (posLt m hm).1
        constructor
        · intro h
          exact ⟨fun e => by subst e; omega, fun e => by subst e; omega, fun e => by subst e; omega⟩
        · rintro ⟨n0, n1, n2⟩
          have c0 : posOf poss m ≠ N := fun e => n0 (inj m iL hm hL1 (by rw [e, hL2]))
          have c1 : posOf poss m ≠ N + 1 := fun e => n1 (inj m iA hm hA1 (by rw [e, hA2]))
          have c2 : posOf poss m ≠ N + 2 := fun e => n2 (inj m iB hm hB1 (by rw [e, hB2]))
          omega
      have hchA : isChain P ops[iA] = true := by unfold isChain isAlloc; rw [oA]; rfl
      have hsame : ∀ t ∈ readsOf ops ops[iB], T.get .bad (pa t) eA.r = T.get .bad (pa t) eL.r := by
        intro t ht
        have htop : t ≤ top := Nat.le_of_ble_eq_true (List.all_eq_true.1 (dopC_fine b2).2 t ht)
        rw [l3, get_put_dst (dopC_fine l2).1 htop, if_neg (rB t ht)]
      have hstep : ∀ i o, ops[i]? = some o → posOf poss i < N → ∃ e, (es.take N)[posOf poss i]? = some e ∧ (dopC P nt ops o).run call e.r e.h = .val e.v (heapAt (es.take N) (heapAt es hh N) (posOf poss i + 1)) ∧ regAt (es.take N) (regAt es rr N) (posOf poss i + 1) = (putC o.dst).run e.r e.v := by
        intro i o ho hi
        obtain ⟨e, z1, z2, z3⟩ := q4 _ o (opsAt_get (posLt i (Array.getElem?_eq_some_iff.1 ho).1).2 ho)
        refine ⟨e, by simp [hi, z1], ?_, ?_⟩
        · rw [heapAt_take (by omega)]; exact z2
        · rw [regAt_take (by omega)]; exact z3
      have C : Cert P nt ops (fun _ => call) (es.take N) r h (regAt es rr N) (heapAt es hh N) (N :: levelStarts P poss 0 ops.toList) order poss N N false :=
        ⟨by simp [hlen]; omega, by omega, Nat.le_refl _, posLt, ordAt, by rw [heapAt_take (Nat.zero_le _)]; exact q2, by rw [regAt_take (Nat.zero_le _)]; exact q3, hstep,
          fun i o ho => by
            obtain ⟨mi, z1, z2, z3, _⟩ := hfine i o ho
            exact ⟨mi, z1, z2, fun hi k ok hk hkM => by
              obtain ⟨mk, y1, y2, y3⟩ := z3 hi k ok hk hkM
              exact ⟨mk, y1, y2, fun a b c => .inl (y3 a b c)⟩⟩,
          by simp,
          fun j o h1 h2 => List.mem_cons_of_mem _ (by simpa using levelStarts_mem (poss := poss) (i := 0) (j := j) (l := ops.toList) (by simpa using h1) h2),
          fun s hs => by
            rcases List.mem_cons.1 hs with rfl | hs
            · exact .inl (.inr ⟨rfl, rfl⟩)
            · rcases levelStarts_spec hs with h | ⟨j, o, h1, h2, h3⟩
              · exact .inl (.inl (by simpa using h))
              · exact .inr ⟨j, o, by simpa using h1, h2, by simpa using h3⟩,
          fun j o h1 h2 h3 h4 => by
            obtain ⟨e, g1, _⟩ := hstep j o h1 h4
            have hthis := asksC_spec hasks j o (by simpa using h1) h2 h3 e (by simpa using g1)
            refine ⟨e, g1, fun s hs hm => ?_⟩
            rcases List.mem_cons.1 hs with rfl | hs
            · have hm' : mayStand P (masksFrom [] ops.toList) ops.toList poss j (((masksFrom [] ops.toList)[j]?).getD 0) (s + 1) = true := by
                unfold mayStand at hm ⊢
                refine zipAll_mk (by rw [masksFrom_length]; simp) fun kk mk ok y1 y2 => ?_
                obtain ⟨mk', x1, x2⟩ := zipAll_get hm kk ok y2
                rw [y1] at x1; cases x1
                simp only [Nat.zero_add] at x2 ⊢
                have hok : ops[kk]? = some ok := by simpa using y2
                have hkl := (Array.getElem?_eq_some_iff.1 hok).1
                by_cases hks : posOf poss kk = s
                · have : kk = iL := inj kk iL hkl hL1 (by rw [hks, hL2])
                  subst this
                  rw [hioL] at hok; cases hok
                  have hnc : isChain P ops[kk] = false := by unfold isChain; rw [effL]; rfl
                  rw [hnc]
                  rfl
                · have : Nat.blt (posOf poss kk) (s + 1) = Nat.blt (posOf poss kk) s := by
                    rw [Bool.eq_iff_iff, Nat.blt_eq, Nat.blt_eq]
                    omega
                  rw [this]
                  exact x2
              have hmem : s + 1 ∈ levelStarts P poss 0 ops.toList := by rw [← hA2]; simpa using levelStarts_mem (P := P) (poss := poss) (i := 0) (j := iA) (l := ops.toList) (by simp) hchA
              obtain ⟨h', g3⟩ := hthis (s + 1) hmem (by simpa using hm')
              refine ⟨call, h', ⟨hcall, hbody⟩, ?_⟩
              have e1 : heapAt (es.take s) (heapAt es hh s) (s + 1) = heapAt es hh s := by
                have : (es.take s)[s + 1]? = none := List.getElem?_eq_none (by simp; omega)
                simp only [heapAt, this]
              have e2 : heapAt (es.take s) (heapAt es hh s) s = heapAt es hh s := heapAt_take (Nat.le_refl _)
              rw [e1] at g3
              rw [e2]
              exact g3
            · obtain ⟨h', g3⟩ := hthis s hs (by simpa using hm)
              exact ⟨call, h', ⟨hcall, hbody⟩, g3⟩,
          fun _ => ⟨rfl, fun kk ok mk hk hge hmk j hj hjN => by
            obtain ⟨mi, z1, z2, _⟩ := htail kk ok hk (by omega)
            rw [hmk] at z1; cases z1
            exact z2 j hj hjN⟩,
          fun h1 h2 => by omega⟩
      refine draw_fin hM hN hcall hbody k s C (fun h => by omega) (fun _ _ _ _ _ _ _ _ h => by omega) (fun _ fuel listed E' a' w' g1 g2 g3 g4 g5 g6 g7 => ?_)
      rw [rNL] at g6
      rw [hNL] at g7
      rw [hLh] at a2 hB0 hA0
      refine tail_three hN hcall hbody (fun i o ho => by obtain ⟨mi, _, z2, _⟩ := hfine i o ho; exact z2) hioL hioA hioB (fun e => by rw [e] at hL2; omega) (fun e => by rw [e] at hL2; omega) (fun e => by rw [e] at hA2; omega) dA dB
        hLany l3 hsame a2 b2 hB0 hA0 g6 g7 (fun E2 a2 w2 p1 p2 p3 => hp E2 a2 w2 (g5.trans p1) (by rw [hrr]; exact p2) p3) g2 g3 (fun mi hmi => by rw [hmA] at hmi; cases hmi; exact wA) ⟨mA, hmA⟩ (fun m hm => (g4 m hm).trans (hnN m hm)) fuel ?_
      have cnt : ∀ (L : Array Bool) (x : Nat), L.size = ops.size → x < ops.size → ¬ L.getD x false = true → (List.range ops.size).countP (fun k => !(L.setIfInBounds x true).getD k false) < (List.range ops.size).countP (fun k => !L.getD k false) := by
        intro L x hL hx hn
        have hxl : x < L.size := by rw [hL]; exact hx
        refine countP_lt (fun k => !L.getD k false) (fun k => !(L.setIfInBounds x true).getD k false) (List.range ops.size) (fun k _ hk => ?_) ⟨x, List.mem_range.2 hx, ?_, ?_⟩
        · simp only [Bool.not_eq_true'] at hk ⊢
          cases hq : L.getD k false with
          | false => rfl
          | true =>
            have := (getD_set (k := k) hxl).2 (.inr hq)
            rw [hk] at this
            cases this
        · cases hq : L.getD x false with
          | false => rfl
          | true => exact absurd hq hn
        · have := (getD_set (k := x) hxl).2 (.inl rfl)
          simp [this]
      have nL : ¬ listed.getD iL false = true := fun h => by have := (g4 iL hL1).1 h; omega
      have nA : ¬ listed.getD iA false = true := fun h => by have := (g4 iA hA1).1 h; omega
      have nB : ¬ listed.getD iB false = true := fun h => by have := (g4 iB hB1).1 h; omega
      have c1 := cnt listed iL g2 hL1 nL
      have c2 := cnt (listed.setIfInBounds iL true) iA (by simp [g2]) hA1 (fun h => by
        rcases (getD_set (by rw [g2]; exact hL1)).1 h with e | h
        · rw [e] at hA2; omega
        · exact nA h)
      have c3 := cnt ((listed.setIfInBounds iL true).setIfInBounds iA true) iB (by simp [g2]) hB1 (fun h => by
        rcases (getD_set (by simp [g2]; exact hA1)).1 h with e | h
        · rw [e] at hB2; omega
        · rcases (getD_set (by rw [g2]; exact hL1)).1 h with e | h
          · rw [e] at hB2; omega
          · exact nB h)
      omega
end
end Go.Proofs.YtigflhomnoledaaGreatDoor.Am

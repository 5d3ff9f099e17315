/- The abstract machine and its walks (a verified interpreter of the model's code: plain definitions and lemmas, no condition). -/
import Derived.Test.YtpfmfpakbfkfoaaGreatDoorM4
import Derived.RangeFuncRecord
import Derived.Carry
import Derived.OpenShut
import Derived.ChangeSame
import Derived.Lib.Bytealg
import Derived.Lib.IndexMore
import Derived.Handed
import Derived.HandedShaped

namespace Go.Proofs.YtpfmfpakbfkfoaaGreatDoor.Am
variable [Lay]
set_option linter.unusedSectionVars false
set_option linter.unusedVariables false
open Go Go.RowKit

theorem splitLast_append : ∀ (xs : List V) (x : V), splitLast (xs ++ [x]) = some (xs, x)
  | [], x => rfl
  | [y], x => rfl
  | y :: z :: xs, x => by
    have := splitLast_append (z :: xs) x
    simp only [List.cons_append] at this ⊢
    simp only [splitLast, this]

theorem RegRel0.putAt {E : Env} {nt : Nat} {r : Regs} {t : Array Value} {ds : List Deferred} (k : RegRel0 E nt r ⟨t, ds⟩) {d : Nat} (hd : d < nt) (ht : d ≤ top) {v : V} {x : Value} (hv : Rel E v x) :
    RegRel0 E nt (T.put .bad v (pa d) r) ⟨t.setIfInBounds d x, ds⟩ := by
  refine ⟨by simp only [Array.size_setIfInBounds]; exact k.size, fun j hj => ?_⟩
  rw [T.get_put]
  have hsz := k.size
  simp only at hsz
  by_cases h : d = j
  · subst h
    rw [if_pos rfl]
    simp [Array.getD_eq_getD_getElem?, hsz, hd, hv]
  · rw [if_neg (fun e => h (pa_inj e))]
    have := k.reg j hj
    simpa [Array.getD_eq_getD_getElem?, Array.getElem?_setIfInBounds, h] using this

theorem putParams_list {E : Env} {nt : Nat} {ds : List Deferred} : ∀ (ps : List Nat) (vs : List V) (xs : List Value) (r : Regs) (t : Array Value), psFine nt ps = true → RelL E vs xs → RegRel0 E nt r ⟨t, ds⟩ →
    RegRel0 E nt (putParams ps vs r) ⟨(ps.zip xs).foldl (fun t (p : Nat × Value) => t.setIfInBounds p.1 p.2) t, ds⟩
  | [], vs, xs, r, t, _, _, k => by cases vs <;> exact k
  | p :: ps, [], xs, r, t, _, hl, k => by simp only [RelL] at hl; subst hl; exact k
  | p :: ps, v :: vs, xs, r, t, hp, hl, k => by
    obtain ⟨y, ys, rfl, hy, hl⟩ := hl
    simp only [psFine, List.all_cons, Bool.and_eq_true, Nat.blt_eq, Nat.ble_eq] at hp
    simp only [putParams, List.zip_cons_cons, List.foldl_cons]
    exact putParams_list ps vs ys _ _ hp.2 hl (k.putAt hp.1.1 hp.1.2 hy)

theorem putParams_rel {E : Env} {nt : Nat} {ds : List Deferred} {ps : Array Nat} {vs : List V} {xs : List Value} {r : Regs} {t : Array Value} (hp : psFine nt ps.toList = true) (hl : RelL E vs xs) (k : RegRel0 E nt r ⟨t, ds⟩) :
    RegRel0 E nt (putParams ps.toList vs r) ⟨(ps.zip xs.toArray).foldl (fun t (p : Nat × Value) => t.setIfInBounds p.1 p.2) t, ds⟩ := by
  rw [← Array.foldl_toList, Array.toList_zip]
  exact putParams_list ps.toList vs xs r t hp hl k

theorem RegRel0.atSlot {E : Env} {nt : Nat} {r : Regs} {a : Act} (k : RegRel0 E nt r a) (v : V) : RegRel0 E nt (T.put .bad v dslot r) a :=
  ⟨k.size, fun t ht => by rw [T.get_put, if_neg (fun e => pa_dslot ht e.symm)]; exact k.reg t ht⟩

section
variable {C : Ctx}

/-- a function's call -/
theorem fn_calls (hN : NamesOk C.P) (hM : C.P.follows .mixedOrders = true) {ex : ExecF} (hex : ExecOk C.P ex) {f : FuncId} {args : List V} {h : Heap} {w0 : Fr} {E : Env} {w : World} {xs : List Value} (hl : RelL E args xs) (s : Sim w0 E h w) {R : Ending → World → Prop}
    (hp : PostF w0 E R ((fnC C.P f).run ex args h)) : (∃ fn, C.P.funcs[f]? = some fn ∧ fn.body.isSome = true) ∧ Calls C.P f xs.toArray w R := by
  unfold fnC at hp
  cases hf : C.P.funcs[f]? with
  | none => rw [hf] at hp; exact hp.elim
  | some fn =>
    rw [hf] at hp
    simp only at hp
    cases hb : fn.body with
    | none => rw [hb] at hp; exact hp.elim
    | some c =>
      rw [hb] at hp
      simp only at hp
      refine ⟨⟨fn, rfl, by rw [hb]; rfl⟩, ?_⟩
      cases hnt : Nat.ble fn.ntmps top with
      | false => rw [hnt] at hp; exact hp.elim
      | true =>
        rw [hnt] at hp
        simp only [cond_true] at hp
        rw [Nat.ble_eq] at hnt
        unfold fnRun at hp
        cases hal : Nat.ble args.length fn.ntmps with
        | false => rw [hal] at hp; exact hp.elim
        | true =>
          rw [hal] at hp
          simp only [cond_true] at hp
          rw [Nat.ble_eq] at hal
          have k := entry_rel hl hal hnt
          have hdf := defC_ok (C := C) hM hN hex
          refine callsIn_wd.1 (callsIn_of_wp_marks (F := Wd none) (n := 0) hf hb trivial ?_)
          refine (hex fn.ntmps c none w0 _ h (.inl rfl) E _ w k s _ ?_).wp
          cases hr : ex fn.ntmps c (argRegs 0 args .e) h with
          | fail => rw [hr] at hp; exact hp
          | pan v r h1 =>
            rw [hr] at hp
            intro E' a' w' x q1 q2 q3 q4
            exact finish_sound (u := some v) hN hdf q2 ⟨x, q3, rfl⟩ q4 (PostF.up q1 hp)
          | ok e r h1 =>
            rw [hr] at hp
            intro E' a' w' q1 q2 q3
            have main : PostF w0 E R (finish (resC C.P fn.ntmps fn.results.toList) r (leaveL (defC C.P ex) (T.get .bad dslot r).list none h1)) → LeavesInM (Wd none) 0 C.P fn a'.tmps R a'.defers .returning w' := by
              intro hp
              exact finish_sound (u := none) hN hdf q2 rfl q3 (PostF.up q1 hp)
            cases e with
            | normal => exact main hp
            | ret => exact main hp
            | exit id => exact hp.elim

theorem fnP_calls (hN : NamesOk C.P) (hM : C.P.follows .mixedOrders = true) (hP : PrimOk C) {ex : ExecF} (hex : ExecOk C.P ex) {f : FuncId} {args : List V} {h : Heap} {w0 : Fr} {E : Env} {w : World} {xs : List Value} (hl : RelL E args xs) (s : Sim w0 E h w) {R : Ending → World → Prop}
    (hp : PostF w0 E R ((fnP C f).run ex args h)) : (∃ fn, C.P.funcs[f]? = some fn ∧ fn.body.isSome = true) ∧ Calls C.P f xs.toArray w R := by
  unfold fnP at hp
  cases hq : C.prim f with
  | none => rw [hq] at hp; exact fn_calls hN hM hex hl s hp
  | some p =>
    rw [hq] at hp
    simp only at hp
    cases hr : p.run args h with
    | fail => rw [hr] at hp; exact hp.elim
    | pan _ _ => rw [hr] at hp; exact hp.elim
    | val v h' =>
      rw [hr] at hp
      obtain ⟨h1, h2⟩ := hP.1 f p args h v h' hq hr
      refine ⟨h1, (h2 w0 E w xs hl s).mono fun e w' hq => ?_⟩
      obtain ⟨E', x, rfl, q1, q2, q3⟩ := hq
      exact hp E' x w' q1 q2 q3

/-- a loop's object is turned -/
theorem Sim.loop {P : Program} {w0 : Fr} {E : Env} {h : Heap} {w : World} (s : Sim w0 E h w) {b : Pa} {l l' : Lp} {p : Pl} {o o' : Loop} (hg : h.get b = .lp l) (hp : E b = some p) (hB : w0.w.heap.size ≤ p.blk) (hh : w.heap[p.blk]? = some (.loop o)) (hr : LpRel E l' o') :
    (setObj p.blk (.loop o')).run P w = .ok () { w with heap := w.heap.setIfInBounds p.blk (.loop o') } ∧ Sim w0 E (h.set b (.lp l')) { w with heap := w.heap.setIfInBounds p.blk (.loop o') } := by
  have hplt := (Array.getElem?_eq_some_iff.1 hh).1
  refine ⟨by simp only [setObj, Sem.run, hh], s.set (p := p) (by rw [hg]; rfl) hp hB (by simp) (fun j hj => ?_) rfl rfl rfl (fun _ _ _ e => by cases e) ?_⟩
  · simp only [Array.getElem?_setIfInBounds]
    rw [if_neg (fun e => hj e.symm)]
  · exact ⟨p, o', hp, hB, by simp [hplt], hr⟩

theorem run_getLoop {P : Program} {r : Nat} {w : World} {o : Loop} (hh : w.heap[r]? = some (.loop o)) : (Instr.getLoop r).run P w = .ok o w := by
  have : (getObj r).run P w = .ok (.loop o) w := by simp only [getObj, Sem.run, hh]
  simp only [Instr.getLoop, Sem.run_bind, this, Result.andThen_ok, Sem.run_pure]

/-- what a round's end tells -/
theorem roundEnd_sound {w0 : Fr} {E : Env} {h h' : Heap} {w : World} {b : Pa} {p : Pl} {e : Ex} {v : V} {P : Program} {R : Ending → World → Prop} {a : Act} (s : Sim w0 E h w) (hp : E b = some p) (he : roundEnd b e h = .val v h')
    (hR : ∀ x w', Rel E v x → Sim w0 E h' w' → R (.returned x) w') : roundPost P p.blk R (toExit e) a w := by
  unfold roundEnd at he
  have hb := s.at hp
  cases hg : h.get b <;> rw [hg] at he hb <;> simp only at he <;> try (cases he; done)
  rename_i l
  obtain ⟨p', o, hp', hB, hh, hr⟩ := hb
  rw [hp] at hp'; cases hp'
  have hgl := run_getLoop (P := P) hh
  obtain ⟨r1, r2, r3, r4, r5, r6, r7, r8⟩ := hr
  cases e with
  | normal =>
    simp only [OR.val.injEq] at he
    obtain ⟨rfl, rfl⟩ := he
    obtain ⟨h1, h2⟩ := s.loop (P := P) (l' := ⟨0, none, l.d, l.nt, l.r, l.ps, l.assign, l.body⟩) (o' := { o with state := .ready, pending := none }) hg hp hB hh ⟨rfl, rfl, r3, r4, r5, r6, r7, r8⟩
    refine ⟨.bool true, _, ?_, hR _ _ rfl h2⟩
    simp only [Instr.endRound, Sem.run_bind, hgl, Result.andThen_ok, Option.isNone_none, if_true, h1, Sem.run_pure]
  | ret =>
    simp only [OR.val.injEq] at he
    obtain ⟨rfl, rfl⟩ := he
    obtain ⟨h1, h2⟩ := s.loop (P := P) (l' := ⟨2, some .ret, l.d, l.nt, l.r, l.ps, l.assign, l.body⟩) (o' := { o with state := .done, pending := some .ret }) hg hp hB hh ⟨rfl, rfl, r3, r4, r5, r6, r7, r8⟩
    refine ⟨.bool false, _, ?_, hR _ _ rfl h2⟩
    simp only [Instr.endRound, Sem.run_bind, hgl, Result.andThen_ok, Option.isNone_some, Bool.false_eq_true, if_false, h1, Sem.run_pure]
  | exit id =>
    simp only [OR.val.injEq] at he
    obtain ⟨rfl, rfl⟩ := he
    obtain ⟨h1, h2⟩ := s.loop (P := P) (l' := ⟨2, some (.exit id), l.d, l.nt, l.r, l.ps, l.assign, l.body⟩) (o' := { o with state := .done, pending := some (.exit id) }) hg hp hB hh ⟨rfl, rfl, r3, r4, r5, r6, r7, r8⟩
    refine ⟨.bool false, _, ?_, hR _ _ rfl h2⟩
    simp only [Instr.endRound, Sem.run_bind, hgl, Result.andThen_ok, Option.isNone_some, Bool.false_eq_true, if_false, h1, Sem.run_pure]

theorem round_sound {P : Program} {ex : ExecF} (hex : ExecOk P ex) {w0 : Fr} {E : Env} {h h' : Heap} {w : World} {args : List V} {xs : List Value} {b : Pa} {p : Pl} {v : V} (he : roundAt ex args b h = .val v h') (hl : RelL E args xs) (s : Sim w0 E h w) (hp : E b = some p) :
    ∃ f tmps assign body, (Instr.yield p.blk xs.toArray).run P w = .ok (.round p.blk f tmps assign body) w ∧
      RoundIn (Wd none) 0 P p.blk f tmps assign body w fun e w' => ∃ E' x, e = .returned x ∧ E.le E' ∧ Rel E' v x ∧ Sim w0 E' h' w' := by
  unfold roundAt at he
  have hb := s.at hp
  cases hg : h.get b <;> rw [hg] at he hb <;> simp only at he <;> try (cases he; done)
  rename_i l
  obtain ⟨p', o, hp', hB, hh, hr⟩ := hb
  rw [hp] at hp'; cases hp'
  obtain ⟨r1, r2, r3, r4, r5, r6, r7, r8⟩ := hr
  obtain ⟨hc, he⟩ := cond_val he
  simp only [Bool.and_eq_true, Nat.beq_eq] at hc
  obtain ⟨c1, c2, c3, c4⟩ := hc
  have hlen := hl.length
  have hps : o.params.size = xs.length := by rw [← Array.length_toList, r3, hlen, c1]
  refine ⟨o.fn, (o.params.zip xs.toArray).foldl (fun tmps (t, a) => tmps.setIfInBounds t a) o.tmps, o.assign, o.body, ?_, ?_⟩
  · simp only [Instr.yield, Sem.run_bind, run_getLoop hh, Result.andThen_ok]
    rw [if_neg (by simp [hps])]
    rfl
  · rw [r4, r5]
    refine roundIn_of_wpIn (F := Wd none) trivial ?_
    have k0 : RegRel0 E l.nt l.r ⟨o.tmps, []⟩ := ⟨r6, r7⟩
    rw [← r3] at c2 he
    have k1 := (putParams_rel c2 hl k0).atSlot .bad
    have k : RegRel E l.nt (T.put .bad .bad dslot (putParams o.params.toList args l.r)) ⟨(o.params.zip xs.toArray).foldl (fun t (p : Nat × Value) => t.setIfInBounds p.1 p.2) o.tmps, []⟩ := ⟨k1, by rw [T.get_put, if_pos rfl]; simp [DRel]⟩
    have hwp := hex l.nt l.assign (some p.blk) w0 _ h (.inr c3) E _ w k s (Exit.then (fun a₁ w₁ => ∃ w₂, (Instr.beginRound p.blk).run P w₁ = .ok () w₂ ∧
      l.body.wpIn (Wd (some p.blk)) 0 P (roundPost P p.blk fun e w' => ∃ E' x, e = .returned x ∧ E.le E' ∧ Rel E' v x ∧ Sim w0 E' h' w') a₁ w₂) (fun _ _ _ => False))
    refine (hwp ?_).wp
    cases hx : ex l.nt l.assign (T.put .bad .bad dslot (putParams o.params.toList args l.r)) h with
    | fail => rw [hx] at he; cases he
    | pan _ _ _ => rw [hx] at he; cases he
    | ok e r1' h1 =>
      rw [hx] at he
      cases e <;> simp only at he <;> try (cases he; done)
      intro E1 a1 w1 q1 q2 q3
      -- the round begins
      unfold roundBody at he
      have hp1 := q1 _ _ hp
      have hb1 := q3.at hp1
      cases hg1 : h1.get b <;> rw [hg1] at he hb1 <;> simp only at he <;> try (cases he; done)
      rename_i l1
      obtain ⟨p1, o1, hp1', hB1, hh1, hr1⟩ := hb1
      rw [hp1] at hp1'; cases hp1'
      obtain ⟨hst, he⟩ := cond_val he
      rw [Nat.beq_eq] at hst
      obtain ⟨t1, t2, t3, t4, t5, t6, t7, t8⟩ := hr1
      obtain ⟨g1, g2⟩ := q3.loop (P := P) (l' := ⟨1, l1.pend, l1.d, l1.nt, l1.r, l1.ps, l1.assign, l1.body⟩) (o' := { o1 with state := .busy }) hg1 hp1 hB1 hh1 ⟨rfl, t2, t3, t4, t5, t6, t7, t8⟩
      refine ⟨{ w1 with heap := w1.heap.setIfInBounds p.blk (.loop { o1 with state := .busy }) }, ?_, ?_⟩
      · have hready : o1.state = .ready := by rw [t1, hst]; rfl
        simp only [Instr.beginRound, Sem.run_bind, run_getLoop hh1, Result.andThen_ok, g1, hready, Sem.run_pure]
      · refine (hex l.nt l.body (some p.blk) w0 _ _ (.inr c4) E1 _ _ q2 g2 _ ?_).wp
        cases hx2 : ex l.nt l.body r1' (h1.set b (.lp ⟨1, l1.pend, l1.d, l1.nt, l1.r, l1.ps, l1.assign, l1.body⟩)) with
        | fail => rw [hx2] at he; cases he
        | pan _ _ _ => rw [hx2] at he; cases he
        | ok e2 r2' h2 =>
          rw [hx2] at he
          simp only at he
          intro E2 a2 w2 z1 z2 z3
          exact roundEnd_sound z3 (z1 _ _ hp1) he fun x w' y1 y2 => ⟨E2, x, rfl, q1.trans z1, y1, y2⟩

theorem callOk (hM : C.P.follows .mixedOrders = true) (hN : NamesOk C.P) (hP : PrimOk C) {ex : ExecF} (hex : ExecOk C.P ex) : CallOk C.P (callWith C ex) where
  fn := by
    intro w0 f args h v h' hf he E w xs hl s
    unfold callWith at he
    rw [cond_beq, if_neg hf] at he
    cases hx : C.ext f with
    | some p =>
      rw [hx] at he
      simp only at he
      cases hr : p.run args h with
      | fail => rw [hr] at he; cases he
      | pan _ _ => rw [hr] at he; cases he
      | val v1 h1 =>
        rw [hr] at he
        simp only [OR.noPan, OR.val.injEq] at he
        obtain ⟨rfl, rfl⟩ := he
        exact .inr (hP.2 f p args h _ _ hx hr w0 E w xs hl s)
    | none =>
    rw [hx] at he
    simp only at he
    exact .inl (fnP_calls hN hM hP hex hl s (by rw [he]; exact fun E' x w' q1 q2 q3 => ⟨E', x, rfl, q1, q2, q3⟩))
  pan := by
    intro w0 f args h v h' hf he E w xs hl s
    unfold callWith at he
    rw [cond_beq, if_neg hf] at he
    cases hx : C.ext f with
    | some p =>
      rw [hx] at he
      simp only at he
      cases hr : p.run args h <;> rw [hr] at he <;> cases he
    | none =>
    rw [hx] at he
    simp only at he
    exact fnP_calls hN hM hP hex hl s (by rw [he]; exact fun E' x w' q1 q2 q3 => ⟨E', x, rfl, q1, q2, q3⟩)
  yl := by
    intro w0 args b h v h' he E w xs p hl s hp
    unfold callWith at he
    rw [cond_beq, if_pos rfl] at he
    unfold roundRun at he
    rw [splitLast_append] at he
    exact round_sound hex he hl s hp
  yp := by
    intro args h v h' he
    unfold callWith at he
    rw [cond_beq, if_pos rfl] at he
    have e1 : ∀ b e h, roundEnd b e h ≠ .pan v h' := by
      intro b e h he
      unfold roundEnd at he
      split at he
      · cases e <;> cases he
      · cases he
    have e2 : ∀ nt c b r h, roundBody ex nt c b r h ≠ .pan v h' := by
      intro nt c b r h he
      unfold roundBody at he
      split at he
      case h_2 => cases he
      rename_i l hl
      cases hc : Nat.beq l.st 0 with
      | false => rw [hc] at he; cases he
      | true =>
        rw [hc] at he
        simp only [cond_true] at he
        split at he
        · exact e1 _ _ _ he
        · cases he
    have e3 : ∀ xs b h, roundAt ex xs b h ≠ .pan v h' := by
      intro xs b h he
      unfold roundAt at he
      split at he
      case h_2 => cases he
      rename_i l hl
      cases hc : (Nat.beq xs.length l.ps.length && (psFine l.nt l.ps && (noMark l.assign && noMark l.body))) with
      | false => rw [hc] at he; cases he
      | true =>
        rw [hc] at he
        simp only [cond_true] at he
        split at he
        case h_2 => cases he
        rename_i e r h1 _
        cases e <;> simp only at he <;> try (cases he; done)
        exact e2 _ _ _ _ _ he
    unfold roundRun at he
    split at he
    case h_2 => cases he
    split at he
    case h_2 => cases he
    exact e3 _ _ _ he
end
end Go.Proofs.YtpfmfpakbfkfoaaGreatDoor.Am

namespace Go.Proofs.YtpfmfpakbfkfoaaGreatDoor.Am
variable [Lay]
set_option linter.unusedSectionVars false
set_option linter.unusedVariables false
open Go Go.RowKit
section
variable {C : Ctx}

theorem exCode_wp {P : Program} {e : Ex} {Q : Exit → Act → World → Prop} {a : Act} {w : World} (h : Q (toExit e) a w) : (exCode e).wpIn (Wd none) 0 P Q a w := by
  cases e with
  | normal => exact wpIn_skip h
  | exit id => exact wpIn_exit h
  | ret => exact wpIn_ret h

theorem range_sound (hM : C.P.follows .mixedOrders = true) (hN : NamesOk C.P) (hP : PrimOk C) {ex : ExecF} (hex : ExecOk C.P ex) {f : Operand} {ps : Array Tmp} {assign body : Code} {nt : Nat} {w0 : Fr} {E : Env} {r : Regs} {h : Heap} {a : Act} {w : World} {Q : Exit → Act → World → Prop}
    (k : RegRel E nt r a) (s : Sim w0 E h w) (hp : PostC w0 E nt Q (rangeRun (fun g args h => (fnP C g).run ex args h) (evC f) ps.toList nt assign body r h)) : (Code.rangeFunc f ps assign body).wpIn (Wd none) 0 C.P Q a w := by
  unfold rangeRun at hp
  have hf := evC_sound k.toRegRel0 f
  generalize (evC f).run r = vf at hp hf
  cases vf <;> simp only at hp <;> try (exact hp.elim)
  rename_i g cs
  rw [cond_beq] at hp
  by_cases hg : g = yieldId
  · rw [if_pos hg] at hp; exact hp.elim
  · rw [if_neg hg] at hp
    simp only [Rel] at hf
    rcases hf with ⟨_, caps, hX, hl⟩ | ⟨hg', _⟩
    case inr => exact absurd hg' hg
    refine wpIn_rangeFunc fun fn _ => ?_
    -- the two objects
    have f0 := s.fresh h.next (Nat.le_refl _)
    obtain ⟨E1, hE1⟩ : ∃ E1, E1 = E.put (pa h.next) ⟨w.heap.size, 0, 0⟩ := ⟨_, rfl⟩
    obtain ⟨w1, hw1⟩ : ∃ w1 : World, w1 = { w with heap := w.heap.push (.deferred (some [])) } := ⟨_, rfl⟩
    have hput1 : E1 (pa h.next) = some ⟨w.heap.size, 0, 0⟩ := by rw [hE1]; unfold Env.put; rw [if_pos rfl]
    have s1 : Sim w0 E1 (h.new .dfr) w1 := by
      rw [hE1, hw1]
      refine s.alloc 0 ⟨⟨w.heap.size, 0, 0⟩, by unfold Env.put; rw [if_pos rfl], s.frame.size, by simp⟩
    have le1 : E.le E1 := by rw [hE1]; exact Env.le_put f0
    have hsz1 : w1.heap.size = w.heap.size + 1 := by rw [hw1]; simp
    obtain ⟨o, ho⟩ : ∃ o : Loop, o = { state := .ready, pending := none, fn, tmps := a.tmps, params := ps, assign, body, defers := w.heap.size } := ⟨_, rfl⟩
    obtain ⟨E2, hE2⟩ : ∃ E2, E2 = E1.put (pa (h.next + 1)) ⟨w1.heap.size, 0, 0⟩ := ⟨_, rfl⟩
    obtain ⟨w2, hw2⟩ : ∃ w2 : World, w2 = { w1 with heap := w1.heap.push (.loop o) } := ⟨_, rfl⟩
    have f1 : E1 (pa (h.next + 1)) = none := s1.fresh (h.next + 1) (Nat.le_refl _)
    have le2 : E1.le E2 := by rw [hE2]; exact Env.le_put f1
    have hput2 : E2 (pa (h.next + 1)) = some ⟨w1.heap.size, 0, 0⟩ := by rw [hE2]; unfold Env.put; rw [if_pos rfl]
    have lp : LpRel E2 ⟨0, none, pa h.next, nt, r, ps.toList, assign, body⟩ o := by
      subst ho
      exact ⟨rfl, rfl, rfl, rfl, rfl, k.size, fun t ht => Rel.mono (le1.trans le2) _ _ (k.reg t ht), _, le2 _ _ hput1, rfl⟩
    have s2 : Sim w0 E2 ((h.new .dfr).new (.lp ⟨0, none, pa h.next, nt, r, ps.toList, assign, body⟩)) w2 := by
      rw [hE2, hw2]
      refine s1.alloc 0 ⟨⟨w1.heap.size, 0, 0⟩, o, by show E1.put (pa (h.next + 1)) _ (pa (h.next + 1)) = _; unfold Env.put; rw [if_pos rfl], by show w0.w.heap.size ≤ w1.heap.size; rw [hsz1]; have := s.frame.size; omega, by simp, ?_⟩
      have := lp
      rw [hE2] at this
      exact this
    obtain ⟨lid, hlid⟩ : ∃ lid, lid = w1.heap.size := ⟨_, rfl⟩
    have hy : Rel E2 (.func yieldId [.ptr (pa (h.next + 1)) 0]) (.func (.yield lid) #[] #[]) := by
      simp only [Rel]
      exact .inr ⟨trivial, _, _, rfl, hput2, by rw [hlid]⟩
    have hargs : RelL E2 (.func yieldId [.ptr (pa (h.next + 1)) 0] :: cs) (.func (.yield lid) #[] #[] :: caps.toList) := by
      simp only [RelL]
      exact ⟨_, _, rfl, hy, RelL.mono (le1.trans le2) _ _ hl⟩
    -- the one call
    have hcall := fnP_calls (C := C) hN hM hP hex (f := g) hargs s2 (R := rangePost (Wd none) 0 C.P lid Q { a with defers := [{ target := .collected w.heap.size, args := #[] }] ++ a.defers })
    cases hr : (fnP C g).run ex (.func yieldId [.ptr (pa (h.next + 1)) 0] :: cs) ((h.new .dfr).new (.lp ⟨0, none, pa h.next, nt, r, ps.toList, assign, body⟩)) with
    | fail => rw [hr] at hp; exact hp.elim
    | pan _ _ => rw [hr] at hp; exact hp.elim
    | val v h' =>
      rw [hr] at hp hcall
      simp only at hp
      obtain ⟨⟨fn', hfn, hb⟩, hc⟩ := hcall (by
        intro E' x w' q1 q2 q3
        simp only [rangePost]
        unfold rangeEnd at hp
        have hpl := q1 _ _ hput2
        have hb := q3.at hpl
        cases hgl : h'.get (pa (h.next + 1)) <;> rw [hgl] at hp hb <;> simp only at hp <;> try (exact hp.elim)
        rename_i l
        obtain ⟨p', o', hp', hB, hh, hlr⟩ := hb
        rw [hpl] at hp'; cases hp'
        obtain ⟨t1, t2, t3, t4, t5, t6, t7, t8⟩ := hlr
        rw [cond_beq] at hp
        by_cases hst : l.st = 1
        · rw [if_pos hst] at hp; exact hp.elim
        · rw [if_neg hst] at hp
          simp only at hh
          rw [← hlid] at hh
          have hnb : (o'.state == LoopState.busy) = false := by
            rw [t1]
            match hl0 : l.st with
            | 0 => rfl
            | 1 => exact absurd hl0 hst
            | n + 2 => rfl
          have hplt := (Array.getElem?_eq_some_iff.1 hh).1
          let w4 : World := { w' with heap := w'.heap.setIfInBounds lid (.loop { o' with state := .exhausted }) }
          have hend : (Instr.endLoop lid).run C.P w' = .ok o'.pending w4 := by
            have hso : (setObj lid (.loop { o' with state := .exhausted })).run C.P w' = .ok () w4 := by simp only [setObj, Sem.run, hh]; rfl
            simp only [Instr.endLoop, Sem.run_bind, run_getLoop hh, Result.andThen_ok, hnb, Bool.false_eq_true, if_false, hso, Sem.run_pure]
          have s4 : Sim w0 E' (h'.set (pa (h.next + 1)) .dead) w4 := by
            refine q3.gone (p := ⟨w1.heap.size, 0, 0⟩) (by rw [hgl]; rfl) hpl hB (by simp [w4]) (fun j hj => ?_) rfl rfl rfl
            simp only at hj
            simp only [w4, Array.getElem?_setIfInBounds]
            rw [if_neg (fun e => hj (by rw [← e, hlid]))]
          have k4 : RegRel E' nt (T.put .bad (.tuple (.ptr (pa h.next) 0 :: (T.get .bad dslot r).list)) dslot r) { a with defers := [{ target := .collected w.heap.size, args := #[] }] ++ a.defers } := by
            refine ⟨⟨k.size, fun t ht => ?_⟩, ?_⟩
            · rw [T.get_put, if_neg (fun e => pa_dslot ht e.symm)]
              exact Rel.mono (le1.trans (le2.trans q1)) _ _ (k.reg t ht)
            · rw [T.get_put, if_pos rfl]
              simp only [DRel, DRelL, List.cons_append, List.nil_append]
              exact ⟨_, _, rfl, ⟨_, q1 _ _ (le2 _ _ hput1), rfl⟩, (k.defers.mono (le1.trans (le2.trans q1))).list⟩
          refine ⟨o'.pending, w4, hend, ?_⟩
          rw [t2]
          cases hpe : l.pend with
          | none =>
            rw [hpe] at hp
            exact hp E' _ w4 (le1.trans (le2.trans q1)) k4 s4
          | some e =>
            rw [hpe] at hp
            exact exCode_wp (hp E' _ w4 (le1.trans (le2.trans q1)) k4 s4))
      refine ⟨lid, [{ target := .collected w.heap.size, args := #[] }], w2, { target := .fn (.func g) caps, args := #[] ++ #[.func (.yield lid) #[] #[]] }, w2, g, _, w2, ?_, ?_, fun _ _ => trivial, ?_, fun h => by simp at h, callsIn_wd.2 hc⟩
      · subst ho hw2 hw1
        have he := run_enterLoop_outer (P := C.P) (w := w) fn a.tmps ps assign body
        rw [World.alloc, World.alloc] at he
        simp only [Array.size_push] at hlid ⊢
        rw [hlid]
        exact he
      · simp only [resolve, hX, Deferred.ofValue, Sem.run_pure]
        simp [Act.eval]
      · simp only [invoke]
        have e : (#[] ++ #[Value.func (.yield lid) #[] #[]] : Array Value) ++ caps = (Value.func (.yield lid) #[] #[] :: caps.toList).toArray := by apply Array.ext'; simp
        rw [e]
        exact run_callFunc hN hfn hb _ w2

theorem stepR_scope {P : Program} {b : Frame} {a : Act} {k : List Item} {cs : List Frame} {w : World} {c : Code} :
    step P (lone (b.atR a (.code (.scope c) :: k)) cs w) = .next (lone (b.atR a (.code c :: .inScope c :: k)) cs w) :=
  step_lone_go (by simp [stepG, stepG.exec, Frame.atR])

theorem stepR_inScope {P : Program} {b : Frame} {a : Act} {k : List Item} {cs : List Frame} {w : World} {c : Code} :
    step P (lone (b.atR a (.inScope c :: k)) cs w) = .next (lone (b.atR a k) cs w) :=
  step_lone_go (by simp [stepG, stepG.exec, Frame.atR])

theorem scopeIn {P : Program} {rd : Option Nat} {c : Code} {Q : Exit → Act → World → Prop} {a : Act} {w : World} (h : c.wpIn (Wd rd) 0 P (Exit.noGoto Q) a w) : (Code.scope c).wpIn (Wd rd) 0 P Q a w := by
  intro b k cs hro hb hr
  obtain ⟨e, a₁, w₁, hq, harr⟩ := h b (.inScope c :: k) cs hro hb hr
  have hx : ∀ id, exitTo id (.inScope c :: k) = exitTo id k := fun id => by simp [exitTo]
  cases e with
  | normal => exact ⟨.normal, a₁, w₁, hq, .head (fenced_wd _) stepR_scope (StepsIn.trans harr (.one (fenced_wd _) stepR_inScope))⟩
  | exit id => exact ⟨.exit id, a₁, w₁, hq, fun k' hk => .head (fenced_wd _) stepR_scope (harr.1 k' (by rw [hx]; exact hk)), fun hr' hk => let ⟨k₁, h1, h2⟩ := harr.2 hr' (by rw [hx]; exact hk); ⟨k₁, h1, .head (fenced_wd _) stepR_scope h2⟩⟩
  | goto l => exact hq.elim
  | ret => exact ⟨_, a₁, w₁, hq, .of_steps (.one (fenced_wd _) stepR_scope) harr⟩
  | panic ch => exact ⟨_, a₁, w₁, hq, .of_steps (.one (fenced_wd _) stepR_scope) harr⟩
  | outgrown => exact ⟨_, a₁, w₁, hq, .of_steps (.one (fenced_wd _) stepR_scope) harr⟩

theorem codeC_sound (hM : C.P.follows .mixedOrders = true) (hN : NamesOk C.P) (hP : PrimOk C) {ex : ExecF} (hex : ExecOk C.P ex) (nt : Nat) : ∀ c : Code, CodeOk C.P nt c ((codeC C nt c).run ex) := by
  have hcall := callOk hM hN hP hex
  have hbody := callBody (C := C) ex
  intro c
  induction c with
  | skip =>
    intro rd w0 r h hr E a w k s Q hp
    exact wpIn_skip (hp E a w (Env.le.refl E) k s)
  | label l =>
    intro rd w0 r h hr E a w k s Q hp
    exact wpIn_label (hp E a w (Env.le.refl E) k s)
  | exit id =>
    intro rd w0 r h hr E a w k s Q hp
    exact wpIn_exit (hp E a w (Env.le.refl E) k s)
  | ret =>
    intro rd w0 r h hr E a w k s Q hp
    exact wpIn_ret (hp E a w (Env.le.refl E) k s)
  | region id ops draw =>
    intro rd w0 r h hr E a w k s Q hp
    have lift : ∀ x : RR, PostC w0 E nt Q (match x with | .ok r' h' => .ok .normal r' h' | .pan v r' h' => .pan v r' h' | .fail => .fail) → PostR w0 E nt (Q .normal) Q x := by
      intro x hx
      cases x <;> exact hx
    cases draw with
    | true =>
      simp only [codeC, cond_true, regRun] at hp
      exact drawC_sound hM hN hcall hbody (lift _ hp) k s
    | false =>
      simp only [codeC, cond_false, regRun] at hp
      refine wpIn_region ?_
      have := opsC_sound (rd := rd) (Q := Q) hN hcall hbody ops.toList 0 (fun j => by simp) (hr.imp (fun h => h) fun h => by simpa only [noMark, List.all_eq_true] using h) E r h a w (lift _ hp) k s
      rw [List.range_eq_range']
      simpa using this
  | seq x y ihx ihy =>
    intro rd w0 r h hr E a w k s Q hp
    simp only [codeC, seqCode] at hp
    have hrx : rd = none ∨ noMark x = true := hr.imp (fun h => h) fun h => by simp only [noMark, Bool.and_eq_true] at h; exact h.1
    have hry : rd = none ∨ noMark y = true := hr.imp (fun h => h) fun h => by simp only [noMark, Bool.and_eq_true] at h; exact h.2
    refine wpIn_seq (ihx rd w0 r h hrx E a w k s _ ?_).wp
    cases hx : (codeC C nt x).run ex r h with
    | fail => rw [hx] at hp; exact hp
    | pan v r1 h1 => rw [hx] at hp; exact hp
    | ok e1 r1 h1 =>
      rw [hx] at hp
      simp only at hp
      intro E' a' w' q1 q2 q3
      cases e1 with
      | normal => exact (ihy rd w0 r1 h1 hry E' a' w' q2 q3 Q (hp.up q1)).wp
      | exit id => exact hp E' a' w' q1 q2 q3
      | ret => exact hp E' a' w' q1 q2 q3
  | cond c x y ihx ihy =>
    intro rd w0 r h hr E a w k s Q hp
    simp only [codeC, condCode] at hp
    have hrx : rd = none ∨ noMark x = true := hr.imp (fun h => h) fun h => by simp only [noMark, Bool.and_eq_true] at h; exact h.1
    have hry : rd = none ∨ noMark y = true := hr.imp (fun h => h) fun h => by simp only [noMark, Bool.and_eq_true] at h; exact h.2
    have hc := evC_sound k.toRegRel0 c
    cases hv : (evC c).run r <;> rw [hv] at hp hc <;> simp only at hp <;> try (exact hp.elim)
    rename_i t
    simp only [Rel] at hc
    cases t with
    | true => exact wpIn_cond_true hc (ihx rd w0 r h hrx E a w k s Q hp).wp
    | false => exact wpIn_cond_false hc (ihy rd w0 r h hry E a w k s Q hp).wp
  | block id x ih =>
    intro rd w0 r h hr E a w k s Q hp
    simp only [codeC, blockCode] at hp
    refine wpIn_block (ih rd w0 r h (hr.imp (fun h => h) fun h => h) E a w k s _ ?_).wp
    cases hx : (codeC C nt x).run ex r h with
    | fail => rw [hx] at hp; exact hp
    | pan v r1 h1 => rw [hx] at hp; exact hp
    | ok e1 r1 h1 =>
      rw [hx] at hp
      simp only at hp
      intro E' a' w' q1 q2 q3
      cases e1 with
      | normal => exact hp E' a' w' q1 q2 q3
      | ret => exact hp E' a' w' q1 q2 q3
      | exit i =>
        simp only [cond_beq] at hp
        simp only [toExit, Exit.inBlock]
        by_cases hi : i = id
        · rw [if_pos hi] at hp ⊢; exact hp E' a' w' q1 q2 q3
        · rw [if_neg hi] at hp ⊢; exact hp E' a' w' q1 q2 q3
  | loop x ih =>
    intro rd w0 r h hr E a w k s Q hp
    simp only [codeC, loopCode] at hp
    have hrx : rd = none ∨ noMark x = true := hr.imp (fun h => h) fun h => h
    intro b kk cs hro
    cases hx : (codeC C nt x).run ex r h with
    | fail => rw [hx] at hp; exact hp.elim
    | pan v r1 h1 =>
      rw [hx] at hp
      have body := (ih rd w0 r h hrx E a w k s (fun e' a' w' => ∃ y, e' = .panic y ∧ Q e' a' w') (by rw [hx]; exact fun E' a' w' x q1 q2 q3 q4 => ⟨_, rfl, hp E' a' w' x q1 q2 q3 q4⟩)).wp b (.inLoop x :: kk) cs hro trivial (room_wd _)
      obtain ⟨e2, a2, w2, ⟨y, rfl, q⟩, harr⟩ := body
      exact ⟨_, a2, w2, q, .pass (x := .inLoop x) rfl (fun _ _ => .inl (by simp)) harr⟩
    | ok e1 r1 h1 =>
      rw [hx] at hp
      simp only at hp
      have body := (ih rd w0 r h hrx E a w k s
        (fun e' a' w' => e' = toExit e1 ∧ ∃ E', E.le E' ∧ RegRel E' nt r1 a' ∧ Sim w0 E' h1 w') (by rw [hx]; exact fun E' a' w' q1 q2 q3 => ⟨rfl, E', q1, q2, q3⟩)).wp b (.inLoop x :: kk) cs hro trivial (room_wd _)
      obtain ⟨e2, a2, w2, ⟨rfl, E2, q1, q2, q3⟩, harr⟩ := body
      cases e1 with
      | normal =>
        have next := hex nt (.loop x) rd w0 r1 h1 hr E2 a2 w2 q2 q3 Q (hp.up q1)
        obtain ⟨e3, a3, w3, p1, p2⟩ := next b kk cs hro
        exact ⟨e3, a3, w3, p1, .of_steps (StepsIn.trans harr (.one (fenced_wd _) stepR_inLoop)) p2⟩
      | exit id => exact ⟨.exit id, a2, w2, hp E2 a2 w2 q1 q2 q3, .pass (x := .inLoop x) rfl (fun _ _ => .inl (by simp)) harr⟩
      | ret => exact ⟨.ret, a2, w2, hp E2 a2 w2 q1 q2 q3, .pass (x := .inLoop x) rfl (fun _ _ => .inl (by simp)) harr⟩
  | scope x ih =>
    intro rd w0 r h hr E a w k s Q hp
    simp only [codeC] at hp
    refine scopeIn (ih rd w0 r h (hr.imp (fun h => h) fun h => h) E a w k s _ ?_).wp
    cases hx : (codeC C nt x).run ex r h with
    | fail => rw [hx] at hp; exact hp
    | pan v r1 h1 => rw [hx] at hp; exact hp
    | ok e1 r1 h1 =>
      rw [hx] at hp
      intro E' a' w' q1 q2 q3
      have := hp E' a' w' q1 q2 q3
      cases e1 <;> exact this
  | rangeFunc f ps x y _ _ =>
    intro rd w0 r h hr E a w k s Q hp
    rcases hr with rfl | hr
    case inr => cases hr
    simp only [codeC] at hp
    exact range_sound hM hN hP hex k s hp
  | goto l => intro rd w0 r h hr E a w k s Q hp; exact hp.elim
  | refuse why => intro rd w0 r h hr E a w k s Q hp; exact hp.elim
end
end Go.Proofs.YtpfmfpakbfkfoaaGreatDoor.Am

namespace Go.Proofs.YtpfmfpakbfkfoaaGreatDoor.Am
variable [Lay]
set_option linter.unusedSectionVars false
set_option linter.unusedVariables false
open Go Go.RowKit
section
variable {C : Ctx}

theorem exec_ok (hM : C.P.follows .mixedOrders = true) (hN : NamesOk C.P) (hP : PrimOk C) : ∀ n, ExecOk C.P (exec C n)
  | 0 => fun nt c rd w0 r h hr E a w k s Q hp => hp.elim
  | n + 1 => fun nt c => codeC_sound hM hN hP (exec_ok hM hN hP n) nt c

/-- A CALL THAT THE MACHINE ENDS: the program ends it so. -/
theorem callN_calls (hM : C.P.follows .mixedOrders = true) (hN : NamesOk C.P) (hP : PrimOk C) {n : Nat} {f : FuncId} {args : List V} {h h' : Heap} {v : V} (hf : Nat.beq f yieldId = false) (hx : C.ext f = none) (he : callN C n f args h = .val v h')
    {w0 : Fr} {E : Env} {w : World} {xs : List Value} (hl : RelL E args xs) (s : Sim w0 E h w) :
    (∃ fn, C.P.funcs[f]? = some fn ∧ fn.body.isSome = true) ∧ Calls C.P f xs.toArray w fun e w' => ∃ E' x, e = .returned x ∧ E.le E' ∧ Rel E' v x ∧ Sim w0 E' h' w' := by
  unfold callN callWith at he
  rw [hf, cond_false, hx] at he
  simp only at he
  exact fnP_calls hN hM hP (exec_ok hM hN hP n) hl s (by rw [he]; exact fun E' x w' q1 q2 q3 => ⟨E', x, rfl, q1, q2, q3⟩)

theorem sim_empty (w : World) (hw : Lay.ok w) : Sim ⟨w, fun _ => none⟩ (fun _ => none) Heap.empty w := by
  refine ⟨fun b _ => ?_, fun _ _ h => (by cases h), (fun b b' p p' _ _ h => by cases h), fun _ _ => rfl, Below.refl _ _, hw, (fun _ _ _ _ _ _ h => by cases h)⟩
  have : Heap.empty.get b = .dead := by simp [Heap.get, Heap.empty]
  rw [this]
  trivial

end
end Go.Proofs.YtpfmfpakbfkfoaaGreatDoor.Am

namespace Go.Proofs.YtpfmfpakbfkfoaaGreatDoor.Am
variable [Lay]
set_option linter.unusedSectionVars false
open Go Go.RowKit Go.ChangeShapes Go.WideShapes
set_option linter.unusedVariables false

/-! A law without arguments that is told true: from the machine to the statement's own form. -/
section
variable {H : Type} {enc : TypeId × Value → H} {P : Program}

end
end Go.Proofs.YtpfmfpakbfkfoaaGreatDoor.Am

namespace Go.Proofs.YtpfmfpakbfkfoaaGreatDoor.Am
variable [Lay]
set_option linter.unusedSectionVars false
set_option linter.unusedVariables false
open Go Go.RowKit

/-! What the library does, taken by contract. -/
/-- what is below the end of memory stays: all that the machine knows stays true -/
theorem Sim.below {w0 : Fr} {E : Env} {h : Heap} {w w' : World} (s : Sim w0 E h w) (hb : Below w.heap.size w w') : Sim w0 E h w' := by
  have hsz : w0.w.heap.size ≤ w.heap.size := s.frame.size
  have keep : ∀ (k : Nat) (o : Obj), w.heap[k]? = some o → w'.heap[k]? = some o := by
    intro k o hk
    rw [hb.block k, hk]
    by_cases hlt : k < w.heap.size
    · exact hlt
    · rw [Array.getElem?_eq_none (by omega)] at hk
      cases hk
  refine ⟨fun b hp => ?_, s.pen, s.inj, s.fresh, s.frame.trans (hb.mono hsz), s.laid, s.base⟩
  have := s.blk b hp
  cases hk : h.get b <;> rw [hk] at this <;> simp only [BlkRel] at this ⊢
  · obtain ⟨q1, p, c, el, fz, q2, q3, q4, q5⟩ := this
    exact ⟨q1, p, c, el, fz, q2, q3, keep _ _ q4, q5⟩
  · obtain ⟨q1, p, c, el, fz, q2, q3, q4, q5⟩ := this
    exact ⟨q1, p, c, el, fz, q2, q3, keep _ _ q4, q5⟩
  · obtain ⟨p, q1, q2, q3, q4⟩ := this
    exact ⟨p, q1, q2, q3, keep _ _ q4⟩
  · obtain ⟨p, a, q1, q2, q3, q4⟩ := this
    exact ⟨p, a, q1, q2, keep _ _ q3, q4⟩
  · obtain ⟨p, o, q1, q2, q3, q4⟩ := this
    exact ⟨p, o, q1, q2, keep _ _ q3, q4⟩
  · obtain ⟨p, q1, q2, q3⟩ := this
    exact ⟨p, q1, q2, keep _ _ q3⟩
  · obtain ⟨p, a, c, l, q1, q2, q3, q4⟩ := this
    exact ⟨p, a, c, l, q1, q2, keep _ _ q3, q4⟩
  · obtain ⟨p, m, a, q1, q2, q3, q4, q5⟩ := this
    exact ⟨p, m, a, q1, q2, q3, keep _ _ q4, q5⟩

/-- a contract of the kit, as the machine takes it -/
theorem kit_prim {P : Program} {f : FuncId} {args : List V} {v : V} {h : Heap} (H : ∀ E xs w, Lay.ok w → RelL E args xs → Calls P f xs.toArray w fun e w' => ∃ x, e = .returned x ∧ Rel E v x ∧ Below w.heap.size w w')
    (w0 : Fr) (E : Env) (w : World) (xs : List Value) (hx : RelL E args xs) (s : Sim w0 E h w) : Calls P f xs.toArray w fun e w' => ∃ E' x, e = .returned x ∧ E.le E' ∧ Rel E' v x ∧ Sim w0 E' h w' := by
  refine (H E xs w (Lay.keep s.laid s.frame) hx).mono fun e w' q => ?_
  obtain ⟨x, rfl, hv, hb⟩ := q
  exact ⟨E, x, rfl, Env.le.refl E, hv, s.below hb⟩

theorem ext_run {P : Program} {f : FuncId} {fn : Func} {e : Array Value → Sem Value} (hf : P.funcs[f]? = some fn) (hn : (fn.name == "runtime.NumGoroutine") = false) (hb : fn.body.isNone = true) (h1 : Extern.findNext fn = none) (h2 : Extern.find fn = some e)
    {xs : Array Value} {x : Value} {w : World} (hr : (e xs).run P w = .ok x w) : (callFunc f xs).run P w = .ok (.value x) w := by
  simp only [callFunc, Sem.run_bind, run_program, Result.andThen_ok, hf]
  rw [if_neg (by rw [hn]; simp), if_pos hb]
  simp only [Sem.run_bind, h1, h2]
  have hm : (mark (.extern f)).run P w = .ok () w := rfl
  rw [hm]
  simp only [Result.andThen_ok, hr, Sem.run_pure]

/-! Where a byte stands; whether a text stands in another. -/
def ixB (c : Nat) : List UInt8 → Nat → Int
  | [], _ => -1
  | b :: l, i => bif Nat.beq b.toNat c then .ofNat i else ixB c l (i + 1)

theorem ixB_eq (c : Nat) (hc : c < 256) : ∀ (l : List UInt8) (i : Nat), ixB c l i = if Lib.indexByte l c.toUInt8 = -1 then -1 else Lib.indexByte l c.toUInt8 + i
  | [], i => by simp [ixB, Lib.indexByte]
  | b :: l, i => by
    have hge := Lib.indexByte_ge l c.toUInt8
    have hbc : (b.toNat = c) ↔ (b == c.toUInt8) = true := by
      rw [beq_iff_eq, ← UInt8.toNat_inj]
      have : c.toUInt8.toNat = c := by
        show c % 256 = c
        omega
      rw [this]
    have e : Lib.indexByte (b :: l) c.toUInt8 = if (b == c.toUInt8) = true then 0 else if (Lib.indexByte l c.toUInt8 == -1) = true then -1 else Lib.indexByte l c.toUInt8 + 1 := rfl
    simp only [ixB, ixB_eq c hc l (i + 1), cond_beq]
    by_cases h : b.toNat = c
    · rw [if_pos (hbc.1 h)] at e
      rw [if_pos h, e]
      simp
    · rw [if_neg (fun e => h (hbc.2 e))] at e
      rw [if_neg h]
      by_cases h2 : Lib.indexByte l c.toUInt8 = -1
      · rw [h2] at e
        simp only [beq_self_eq_true, if_true] at e
        simp [h2, e]
      · have h3 : (Lib.indexByte l c.toUInt8 == -1) = false := by simpa using h2
        rw [h3] at e
        simp only [Bool.false_eq_true, if_false] at e
        rw [if_neg h2, e, if_neg (by omega)]
        omega

def preB : List UInt8 → List UInt8 → Bool
  | [], _ => true
  | _ :: _, [] => false
  | a :: x, b :: y => bif Nat.beq a.toNat b.toNat then preB x y else false

theorem preB_eq : ∀ (x y : List UInt8), preB x y = x.isPrefixOf y
  | [], y => by cases y <;> rfl
  | _ :: _, [] => rfl
  | a :: x, b :: y => by
    simp only [preB, List.isPrefixOf, cond_beq, preB_eq x y]
    by_cases h : a.toNat = b.toNat
    · have : a = b := UInt8.toNat_inj.1 h
      subst this
      simp
    · have : (a == b) = false := by
        rw [beq_eq_false_iff_ne]
        exact fun e => h (by rw [e])
      rw [if_neg h, this]
      rfl

def hasB : List UInt8 → List UInt8 → Bool
  | [], sub => preB sub []
  | b :: l, sub => bif preB sub (b :: l) then true else hasB l sub

theorem hasB_eq : ∀ (s sub : List UInt8), hasB s sub = Lib.contains s sub
  | [], sub => by
    simp only [hasB, preB_eq, Lib.contains, Lib.index]
    cases sub <;> simp
  | b :: l, sub => by
    simp only [hasB, preB_eq]
    have ih := hasB_eq l sub
    unfold Lib.contains at ih ⊢
    unfold Lib.index
    cases h : sub.isPrefixOf (b :: l) with
    | true => simp
    | false =>
      simp only [cond_false, Bool.false_eq_true, if_false, ih]
      have hge := Lib.index_ge l sub
      cases h2 : (Lib.index l sub == -1) with
      | true =>
        have : Lib.index l sub = -1 := by simpa using h2
        simp [this]
      | false =>
        have : Lib.index l sub ≠ -1 := by simpa using h2
        simp only [Bool.false_eq_true, if_false]
        rw [Bool.eq_iff_iff, decide_eq_true_eq, decide_eq_true_eq]
        omega

/-- strings.Contains -/
def containsP : PrimC := ⟨fun args h => match args with
  | [x, y] => (match x with
    | .str s => (match y with
      | .str sub => bif Nat.ble s.length 100000 then .val (.bool (hasB s sub)) h else .fail
      | _ => .fail)
    | _ => .fail)
  | _ => .fail⟩

theorem containsP_some {args : List V} {h h' : Heap} {v : V} (he : containsP.run args h = .val v h') : ∃ s sub, args = [.str s, .str sub] ∧ s.length ≤ 100000 ∧ v = .bool (Lib.contains s sub) ∧ h' = h := by
  simp only [containsP] at he
  split at he
  case h_2 => cases he
  split at he
  case h_2 => cases he
  split at he
  case h_2 => cases he
  obtain ⟨hc, h1⟩ := cond_val he
  simp only [OR.val.injEq] at h1
  obtain ⟨rfl, rfl⟩ := h1
  exact ⟨_, _, rfl, Nat.le_of_ble_eq_true hc, by rw [hasB_eq], rfl⟩

/-- bytealg.IndexByteString -/
def indexP : PrimC := ⟨fun args h => match args with
  | [x, y] => (match x with
    | .str s => (match y with
      | .int k c => bif eqKind k .u8 && (Int.leB 0 c && Nat.blt c.toNat 256) then .val (.int .i64 (ixB c.toNat s 0)) h else .fail
      | _ => .fail)
    | _ => .fail)
  | _ => .fail⟩

theorem indexP_some {args : List V} {h h' : Heap} {v : V} (he : indexP.run args h = .val v h') : ∃ s c, args = [.str s, .int .u8 c] ∧ v = .int .i64 (Lib.indexByte s c.toNat.toUInt8) ∧ h' = h := by
  simp only [indexP] at he
  split at he
  case h_2 => cases he
  split at he
  case h_2 => cases he
  split at he
  case h_2 => cases he
  rename_i s _ k c
  obtain ⟨hc, h1⟩ := cond_val he
  simp only [Bool.and_eq_true, Nat.blt_eq] at hc
  have hk := eqKind_eq hc.1
  subst hk
  simp only [OR.val.injEq] at h1
  obtain ⟨rfl, rfl⟩ := h1
  refine ⟨s, c, rfl, ?_, rfl⟩
  rw [ixB_eq _ hc.2.2]
  by_cases h : Lib.indexByte s c.toNat.toUInt8 = -1
  · rw [if_pos h, h]
  · rw [if_neg h]
    simp

theorem indexP_ext {P : Program} {f : FuncId} {fn : Func} (hf : P.funcs[f]? = some fn) (hn : (fn.name == "runtime.NumGoroutine") = false) (hb : fn.body.isNone = true) (h1 : Extern.findNext fn = none) (h2 : Extern.find fn = some Extern.BytealgIndexByte.indexByte)
    {args : List V} {h h' : Heap} {v : V} (he : indexP.run args h = .val v h') (w0 : Fr) (E : Env) (w : World) (xs : List Value) (hx : RelL E args xs) (s : Sim w0 E h w) :
    ∃ E' x w', (callFunc f xs.toArray).run P w = .ok (.value x) w' ∧ E.le E' ∧ Rel E' v x ∧ Sim w0 E' h' w' := by
  obtain ⟨t, c, rfl, rfl, rfl⟩ := indexP_some he
  obtain ⟨y, ys, rfl, q1, z, zs, rfl, q2, rfl⟩ := hx
  simp only [Rel] at q1 q2
  subst q1 q2
  exact ⟨E, _, w, ext_run hf hn hb h1 h2 (Lib.run_indexByteString _ _ _), Env.le.refl E, by simp [Rel], s⟩

/-! A row that lists variables: the world's shape and what is laid, both. -/
theorem returns_shaped_and {H : Type} {enc : TypeId × Value → H} {a : Assume} {C : Checked} {os : Os} {f : FuncId} {fn : Func} {s : ChangeSpec} {conds : List PathCond} {apart fresh handsOn again : Bool} {X : World → Array Value → Prop}
    (hX : ∀ (w w' : World) (args : Array Value), w.heap = w'.heap → X w args → X w' args)
    (own : ownKnob C.prog.godebug = none) (started : os.Started) (noInit : C.prog.inits.idxOf? f = none) (hfn : C.prog.funcs[f]? = some fn)
    (witness : ∃ (w : World) (tape : Tape) (i : Input), w.os = os ∧ (w.forCall tape i).Shaped C.prog ∧ i.vars = [] ∧ Input.okWide C.prog (w.forCall tape i) .any w.heap.size f i ∧
      ((s.pre enc C.prog fn conds apart (w.forCall tape i).memory i.args ∧ X (w.forCall tape i).memory i.args) ∧ sizedMet enc C.prog fn (OpenSpec.ofChange s) apart (w.forCall tape i).memory i.args) ∧ a.holds C.prog (lone (Frame.enter C.prog f i.args .normal) [] (w.forCall tape i)))
    (contract : ∀ (W : World) (base : Nat) (args : Array Value) (ds gs : List (DataW H)) (before : List MemPlace),
      (∀ (j : Nat) t v, fn.params[j]? = some t → args[j]? = some v → Value.okWide C.prog W .any base t v) →
      DataW.Whole enc C.prog fn.params.toList s.vars apart W args.toList ds gs before →
      X W args → W.ShapedOpen C.prog →
      Calls C.prog f args W fun e W' => ∃ v, e = .returned v ∧ s.post enc C.prog fn apart fresh handsOn again W args v W') :
    ReturnsInHanded a C os f .any (fun w args => (s.pre enc C.prog fn conds apart w args ∧ X w args) ∧ sizedMet enc C.prog fn (OpenSpec.ofChange s) apart w args) (s.post enc C.prog fn apart fresh handsOn again) := by
  refine returnsInHanded_of_calls own started noInit witness ?_
  intro w tape i _ hsh _ hok hpre hholds
  obtain ⟨_, _, _, fn', hfn', _, _, _, _, hval⟩ := hok
  have e : fn' = fn := Option.some.inj (hfn'.symm.trans hfn)
  subst e
  obtain ⟨⟨⟨ds, gs, before, hw, hc⟩, hx⟩, hz⟩ := hpre
  have hw' := DataW.Whole.of_heap (w' := w.forCall tape i) (by rfl) hw
  refine (contract (w.forCall tape i) w.heap.size i.args ds gs before hval hw' (hX _ _ _ (by rfl) hx) hsh).mono fun e W' ⟨v, he, hp⟩ => ?_
  subst he
  exact ChangeSpec.post_blind hp

end Go.Proofs.YtpfmfpakbfkfoaaGreatDoor.Am

namespace Go.Proofs.YtpfmfpakbfkfoaaGreatDoor.Am
variable [Lay]
set_option linter.unusedSectionVars false
set_option linter.unusedVariables false
open Go Go.RowKit

/-! Closed calls that are run apart. -/
def V.plain : V → Bool
  | .bool _ | .int _ _ | .str _ | .sym _ _ => true
  | _ => false

theorem Rel.plain {E E' : Env} {v : V} {x : Value} (hp : v.plain = true) (h : Rel E v x) : Rel E' v x := by
  cases v <;> simp only [V.plain] at hp <;> first
    | (cases hp; done)
    | (simp only [Rel] at h ⊢; exact h)

theorem RelL.plain {E E' : Env} : ∀ {vs : List V} {xs : List Value}, vs.all V.plain = true → RelL E vs xs → RelL E' vs xs
  | [], xs, _, h => h
  | v :: vs, xs, hp, h => by
    simp only [List.all_cons, Bool.and_eq_true] at hp
    obtain ⟨y, ys, rfl, h1, h2⟩ := h
    exact ⟨y, ys, rfl, Rel.plain hp.1 h1, RelL.plain hp.2 h2⟩

def anyEq (args : List V) : List (List V) → Bool
  | [] => false
  | l :: ls => bif eqLs eqV1 args l then true else anyEq args ls

theorem anyEq_mem {args : List V} : ∀ {ls : List (List V)}, anyEq args ls = true → args ∈ ls
  | [], h => by cases h
  | l :: ls, h => by
    simp only [anyEq] at h
    cases h1 : eqLs eqV1 args l with
    | true =>
      have := eqLs_eq (fun a b => eqV1_eq) h1
      subst this
      simp
    | false =>
      rw [h1] at h
      exact List.mem_cons_of_mem _ (anyEq_mem h)

/-- at these arguments: true -/
def closedP (ls : List (List V)) : PrimC := ⟨fun args h => bif anyEq args ls then .val (.bool true) h else .fail⟩

theorem closedP_ok {C : Ctx} (hM : C.P.follows .mixedOrders = true) (hN : NamesOk C.P) (hP : PrimOk C) {f : FuncId} (hf : Nat.beq f yieldId = false) (hx : C.ext f = none) {ls : List (List V)}
    (hrun : ∀ l ∈ ls, l.all V.plain = true ∧ ∃ n, truly C n f l = true) {args : List V} {h h' : Heap} {v : V} (he : (closedP ls).run args h = .val v h') :
    (∃ fn, C.P.funcs[f]? = some fn ∧ fn.body.isSome = true) ∧ ∀ (w0 : Fr) E w xs, RelL E args xs → Sim w0 E h w →
      Calls C.P f xs.toArray w fun e w' => ∃ E' x, e = .returned x ∧ E.le E' ∧ Rel E' v x ∧ Sim w0 E' h' w' := by
  obtain ⟨hc, h1⟩ := cond_val he
  simp only [OR.val.injEq] at h1
  obtain ⟨rfl, rfl⟩ := h1
  obtain ⟨hpl, n, ht⟩ := hrun _ (anyEq_mem hc)
  unfold truly at ht
  cases hcall : callN C n f args Heap.empty with
  | fail => rw [hcall] at ht; cases ht
  | pan _ _ => rw [hcall] at ht; cases ht
  | val v hh =>
    rw [hcall] at ht
    simp only at ht
    cases v <;> simp only at ht <;> try (cases ht; done)
    subst ht
    have main : ∀ (w : World) (xs : List Value), Lay.ok w → RelL (fun _ => none) args xs → (∃ fn, C.P.funcs[f]? = some fn ∧ fn.body.isSome = true) ∧ Calls C.P f xs.toArray w fun e w' => ∃ E' x, e = .returned x ∧ Env.le (fun _ => none) E' ∧ Rel E' (.bool true) x ∧ Sim ⟨w, fun _ => none⟩ E' hh w' :=
      fun w xs hw hxs => callN_calls hM hN hP hf hx hcall hxs (sim_empty w hw)
    refine ⟨?_, fun w0 E w xs hxs s => ?_⟩
    · -- a body there is
      have hb : ∃ fn, C.P.funcs[f]? = some fn ∧ fn.body.isSome = true := by
        unfold callN callWith at hcall
        rw [hf, cond_false, hx] at hcall
        simp only [fnP] at hcall
        cases hq : C.prim f with
        | some p =>
          rw [hq] at hcall
          simp only at hcall
          cases hr : p.run args Heap.empty with
          | fail => rw [hr] at hcall; cases hcall
          | pan _ _ => rw [hr] at hcall; cases hcall
          | val v1 h1 => exact (hP.1 f p args _ _ _ hq hr).1
        | none =>
          rw [hq] at hcall
          simp only [fnC] at hcall
          cases hfn : C.P.funcs[f]? with
          | none => rw [hfn] at hcall; cases hcall
          | some fn =>
            rw [hfn] at hcall
            simp only at hcall
            cases hbo : fn.body with
            | none => rw [hbo] at hcall; cases hcall
            | some c => exact ⟨fn, rfl, by rw [hbo]; rfl⟩
      exact hb
    · refine (main w xs (Lay.keep s.laid s.frame) (RelL.plain hpl hxs)).2.mono fun e w' hq => ?_
      obtain ⟨E', x, rfl, _, q2, q3⟩ := hq
      exact ⟨E, x, rfl, Env.le.refl E, Rel.plain rfl q2, s.below q3.frame⟩
end Go.Proofs.YtpfmfpakbfkfoaaGreatDoor.Am

namespace Go.Proofs.YtpfmfpakbfkfoaaGreatDoor.Am
variable [Lay]
set_option linter.unusedSectionVars false
set_option linter.unusedVariables false
open Go Go.RowKit

/-! A run cut in pieces: a call, at just these arguments and this heap, is run apart; what comes of it is written down. -/
def eqT : T V → T V → Bool
  | .e, .e => true
  | .n v l r, .n v' l' r' => bif eqV v v' then (bif eqT l l' then eqT r r' else false) else false
  | _, _ => false

theorem eqT_eq : ∀ {a b : T V}, eqT a b = true → a = b
  | .e, .e, _ => rfl
  | .e, .n _ _ _, h => by cases h
  | .n _ _ _, .e, h => by cases h
  | .n v l r, .n v' l' r', h => by
    simp only [eqT] at h
    cases h1 : eqV v v' with
    | false => rw [h1] at h; cases h
    | true =>
      rw [h1] at h
      simp only [cond_true] at h
      cases h2 : eqT l l' with
      | false => rw [h2] at h; cases h
      | true =>
        rw [h2] at h
        simp only [cond_true] at h
        rw [eqV_eq h1, eqT_eq h2, eqT_eq h]

def eqMEs : List ME → List ME → Bool
  | [], [] => true
  | a :: x, b :: y => bif eqV a.k b.k && (eqV a.v b.v && Nat.beq a.born b.born) then eqMEs x y else false
  | _, _ => false

theorem eqMEs_eq : ∀ {a b : List ME}, eqMEs a b = true → a = b
  | [], [], _ => rfl
  | [], _ :: _, h => by cases h
  | _ :: _, [], h => by cases h
  | ⟨k, v, n⟩ :: x, ⟨k', v', n'⟩ :: y, h => by
    simp only [eqMEs] at h
    cases h1 : (eqV k k' && (eqV v v' && Nat.beq n n')) with
    | false => rw [h1] at h; cases h
    | true =>
      rw [h1] at h
      simp only [cond_true] at h
      simp only [Bool.and_eq_true] at h1
      rw [eqV_eq h1.1, eqV_eq h1.2.1, Nat.eq_of_beq_eq_true h1.2.2, eqMEs_eq h]

def eqNs : List Nat → List Nat → Bool
  | [], [] => true
  | a :: x, b :: y => bif Nat.beq a b then eqNs x y else false
  | _, _ => false

theorem eqNs_eq : ∀ {a b : List Nat}, eqNs a b = true → a = b
  | [], [], _ => rfl
  | [], _ :: _, h => by cases h
  | _ :: _, [], h => by cases h
  | a :: x, b :: y, h => by
    simp only [eqNs] at h
    cases h1 : Nat.beq a b with
    | false => rw [h1] at h; cases h
    | true =>
      rw [h1] at h
      simp only [cond_true] at h
      rw [Nat.eq_of_beq_eq_true h1, eqNs_eq h]

def eqSrc (a b : Option Pa) : Bool :=
  match a with
  | none => (match b with | none => true | some _ => false)
  | some p => (match b with | none => false | some q => Pa.eqB p q)

theorem eqSrc_eq {a b : Option Pa} (h : eqSrc a b = true) : a = b := by
  cases a <;> cases b <;> simp only [eqSrc] at h <;> first
    | rfl
    | (cases h; done)
    | rw [Pa.eqB_eq h]

def eqBlk (a b : Blk) : Bool :=
  match a with
  | .dead => (match b with | .dead => true | _ => false)
  | .cells n cs esz st => (match b with | .cells n' cs' esz' st' => Nat.beq n n' && (Nat.beq esz esz' && ((bif st then st' else !st') && eqT cs cs')) | _ => false)
  | .mp es c => (match b with | .mp es' c' => Nat.beq c c' && eqMEs es es' | _ => false)
  | .mset es => (match b with | .mset es' => eqMEs es es' | _ => false)
  | .mit p x l n => (match b with | .mit p' x' l' n' => eqSrc p p' && (Nat.beq x x' && (eqNs l l' && Nat.beq n n')) | _ => false)
  | _ => false

theorem eqBlk_eq {a b : Blk} (h : eqBlk a b = true) : a = b := by
  cases a <;> cases b <;> simp only [eqBlk] at h <;> first
    | rfl
    | (cases h; done)
    | skip
  · rename_i n cs esz st n' cs' esz' st'
    simp only [Bool.and_eq_true] at h
    rw [Nat.eq_of_beq_eq_true h.1, Nat.eq_of_beq_eq_true h.2.1, eqT_eq h.2.2.2]
    have := h.2.2.1
    cases st <;> cases st' <;> simp_all
  · rename_i es c es' c'
    simp only [Bool.and_eq_true] at h
    rw [Nat.eq_of_beq_eq_true h.1, eqMEs_eq h.2]
  · rw [eqMEs_eq h]
  · rename_i p x l n p' x' l' n'
    simp only [Bool.and_eq_true] at h
    rw [eqSrc_eq h.1, Nat.eq_of_beq_eq_true h.2.1, eqNs_eq h.2.2.1, Nat.eq_of_beq_eq_true h.2.2.2]

/-- a heap as it is written down -/
structure SH where
  next : Nat
  l : List (Nat × Blk)

noncomputable def lays : List (Nat × Blk) → Heap → Heap
  | [], h => h
  | x :: xs, h => lays xs (h.set (pa x.1) x.2)

noncomputable def SH.heap (s : SH) : Heap := lays s.l ⟨s.next, .e⟩

theorem lays_next : ∀ (l : List (Nat × Blk)) (h : Heap), (lays l h).next = h.next
  | [], h => rfl
  | x :: xs, h => by rw [lays, lays_next xs]; rfl

theorem SH.heap_next (s : SH) : s.heap.next = s.next := lays_next _ _

/-- blocks below n are the same -/
noncomputable def eqUpto (h g : Heap) : Nat → Bool
  | 0 => true
  | n + 1 => bif eqBlk (h.get (pa n)) (g.get (pa n)) then eqUpto h g n else false

theorem eqUpto_eq {h g : Heap} : ∀ (n : Nat), eqUpto h g n = true → ∀ i, i < n → h.get (pa i) = g.get (pa i)
  | 0, _, i, hi => absurd hi (by omega)
  | n + 1, he, i, hi => by
    simp only [eqUpto] at he
    cases h1 : eqBlk (h.get (pa n)) (g.get (pa n)) with
    | false => rw [h1] at he; cases he
    | true =>
      rw [h1] at he
      simp only [cond_true] at he
      by_cases e : i = n
      · subst e; exact eqBlk_eq h1
      · exact eqUpto_eq n he i (by omega)

/-- all that is written down stands there -/
noncomputable def allIn (h : Heap) : List (Nat × Blk) → Bool
  | [] => true
  | x :: xs => bif eqBlk (h.get (pa x.1)) x.2 then allIn h xs else false

theorem allIn_sub {h : Heap} : ∀ (l : List (Nat × Blk)) (g : Heap), allIn h l = true → (∀ b, g.get b = .dead ∨ h.get b = g.get b) → ∀ b, (lays l g).get b = .dead ∨ h.get b = (lays l g).get b
  | [], g, _, hg => hg
  | x :: xs, g, he, hg => by
    simp only [allIn] at he
    cases h1 : eqBlk (h.get (pa x.1)) x.2 with
    | false => rw [h1] at he; cases he
    | true =>
      rw [h1] at he
      simp only [cond_true] at he
      refine allIn_sub xs _ he fun b => ?_
      rw [Heap.get_set]
      by_cases e : pa x.1 = b
      · rw [if_pos e]; subst e; exact .inr (eqBlk_eq h1)
      · rw [if_neg e]; exact hg b

theorem SH.sub {h : Heap} (s : SH) (he : allIn h s.l = true) (b : Pa) : s.heap.get b = .dead ∨ h.get b = s.heap.get b :=
  allIn_sub s.l _ he (fun b => .inl (by simp [Heap.get])) b

/-- blocks may be forgotten, but for those that the world does not hold yet -/
theorem Sim.drop {w0 : Fr} {E : Env} {h g : Heap} {w : World} (s : Sim w0 E h w) (hn : g.next = h.next) (hd : ∀ b, g.get b = .dead ∨ h.get b = g.get b)
    (hp : ∀ b k, w0.pend b = some k → g.get b = h.get b) : Sim w0 E g w := by
  have own : ∀ b, (g.get b).own = true → (h.get b).own = true := by
    intro b hb
    rcases hd b with e | e
    · rw [e] at hb; cases hb
    · rw [e]; exact hb
  refine ⟨fun b hb => ?_, fun b k hk => ?_, fun b b' p p' h1 h2 => s.inj b b' p p' (own b h1) (own b' h2), fun i hi => s.fresh i (by omega), s.frame, s.laid, fun b p n cs st h1 => ?_⟩
  · rcases hd b with e | e
    · rw [e]; trivial
    · rw [← e]; exact s.blk b hb
  · obtain ⟨q1, q2, i, q3, q4⟩ := s.pen b k hk
    exact ⟨(hp b k hk).trans q1, q2, i, by omega, q4⟩
  · rcases hd b with e | e
    · rw [e] at h1; cases h1
    · exact s.base b p n cs st (e.trans h1)

structure Snap where
  args : List V
  h0 : SH
  v : V
  h1 : SH

noncomputable def Snap.fits (s : Snap) (args : List V) (h : Heap) : Bool :=
  bif eqLs eqV args s.args then (bif Nat.beq h.next s.h0.next then (bif allIn h s.h0.l then eqUpto h s.h0.heap s.h0.next else false) else false) else false

noncomputable def snapGo : List Snap → List V → Heap → OR
  | [], _, _ => .fail
  | s :: ss, args, h => bif s.fits args h then .val s.v s.h1.heap else snapGo ss args h

noncomputable def snapP (ss : List Snap) : PrimC := ⟨snapGo ss⟩

noncomputable def Snap.good (C : Ctx) (n : Nat) (f : FuncId) (s : Snap) : Bool :=
  match callN C n f s.args s.h0.heap with
  | .val v h => bif eqV v s.v then (bif Nat.beq h.next s.h1.next then (bif allIn h s.h1.l then eqUpto h s.h1.heap s.h0.next else false) else false) else false
  | _ => false

theorem snapGo_some : ∀ {ss : List Snap} {args : List V} {h h' : Heap} {v : V}, snapGo ss args h = .val v h' → ∃ s ∈ ss, s.fits args h = true ∧ v = s.v ∧ h' = s.h1.heap
  | [], _, _, _, _, h => by cases h
  | s :: ss, args, h, h', v, he => by
    simp only [snapGo] at he
    cases hc : s.fits args h with
    | true =>
      rw [hc] at he
      simp only [cond_true, OR.val.injEq] at he
      exact ⟨s, by simp, hc, he.1.symm, he.2.symm⟩
    | false =>
      rw [hc] at he
      obtain ⟨t, h1, h2⟩ := snapGo_some he
      exact ⟨t, List.mem_cons_of_mem _ h1, h2⟩

theorem and_of_cond {a b : Bool} (h : (bif a then b else false) = true) : a = true ∧ b = true := by
  cases a <;> simp_all

theorem snapP_ok {P : Program} (hM : P.follows .mixedOrders = true) (hN : NamesOk P) {f : FuncId} (hf : Nat.beq f yieldId = false) {ss : List Snap}
    (hrun : ∀ s ∈ ss, ∃ C : Ctx, C.P = P ∧ C.ext f = none ∧ PrimOk C ∧ ∃ n, s.good C n f = true) {args : List V} {h h' : Heap} {v : V} (he : (snapP ss).run args h = .val v h') :
    (∃ fn, P.funcs[f]? = some fn ∧ fn.body.isSome = true) ∧ ∀ (w0 : Fr) E w xs, RelL E args xs → Sim w0 E h w →
      Calls P f xs.toArray w fun e w' => ∃ E' x, e = .returned x ∧ E.le E' ∧ Rel E' v x ∧ Sim w0 E' h' w' := by
  obtain ⟨s, hs, hfit, rfl, rfl⟩ := snapGo_some he
  obtain ⟨C, rfl, hx, hP, n, hg⟩ := hrun s hs
  unfold Snap.good at hg
  cases hcall : callN C n f s.args s.h0.heap with
  | fail => rw [hcall] at hg; cases hg
  | pan _ _ => rw [hcall] at hg; cases hg
  | val v1 hh =>
    rw [hcall] at hg
    simp only at hg
    obtain ⟨g1, hg⟩ := and_of_cond hg
    obtain ⟨g2, hg⟩ := and_of_cond hg
    obtain ⟨g3, g4⟩ := and_of_cond hg
    have := eqV_eq g1
    subst this
    have g2 := Nat.eq_of_beq_eq_true g2
    unfold Snap.fits at hfit
    obtain ⟨f1, hfit⟩ := and_of_cond hfit
    obtain ⟨f2, hfit⟩ := and_of_cond hfit
    obtain ⟨f3, f4⟩ := and_of_cond hfit
    have := eqLs_eq (fun a b => eqV_eq) f1
    subst this
    have f2 := Nat.eq_of_beq_eq_true f2
    have e0 := eqUpto_eq _ f4
    have e1 := eqUpto_eq _ g4
    have main : ∀ (w0 : Fr) (E : Env) (w : World) (xs : List Value), RelL E s.args xs → Sim w0 E h w → (∃ fn, C.P.funcs[f]? = some fn ∧ fn.body.isSome = true) ∧ Calls C.P f xs.toArray w fun e w' => ∃ E' x, e = .returned x ∧ E.le E' ∧ Rel E' s.v x ∧ Sim w0 E' s.h1.heap w' := by
      intro w0 E w xs hxs sim
      have hpd : ∀ b k, w0.pend b = some k → ∃ i, i < s.h0.next ∧ b = pa i := by
        intro b k hk
        obtain ⟨_, _, i, q3, q4⟩ := sim.pen b k hk
        exact ⟨i, by omega, q4⟩
      have sim0 : Sim w0 E s.h0.heap w := sim.drop (by rw [SH.heap_next, f2]) (s.h0.sub f3) (fun b k hk => by
        obtain ⟨i, hi, rfl⟩ := hpd b k hk
        exact (e0 i hi).symm)
      obtain ⟨c1, c2⟩ := callN_calls hM hN hP hf hx hcall hxs sim0
      refine ⟨c1, c2.mono fun e w' hq => ?_⟩
      obtain ⟨E', x, rfl, q1, q2, q3⟩ := hq
      refine ⟨E', x, rfl, q1, q2, q3.drop (by rw [SH.heap_next, g2]) (s.h1.sub g3) (fun b k hk => ?_)⟩
      obtain ⟨i, hi, rfl⟩ := hpd b k hk
      exact (e1 i hi).symm
    refine ⟨?_, fun w0 E w xs hxs sim => (main w0 E w xs hxs sim).2⟩
    unfold callN callWith at hcall
    rw [hf, cond_false, hx] at hcall
    simp only [fnP] at hcall
    cases hq : C.prim f with
    | some p =>
      rw [hq] at hcall
      simp only at hcall
      cases hr : p.run s.args s.h0.heap with
      | fail => rw [hr] at hcall; cases hcall
      | pan _ _ => rw [hr] at hcall; cases hcall
      | val v1 h1 => exact (hP.1 f p s.args _ _ _ hq hr).1
    | none =>
      rw [hq] at hcall
      simp only [fnC] at hcall
      cases hfn : C.P.funcs[f]? with
      | none => rw [hfn] at hcall; cases hcall
      | some fn =>
        rw [hfn] at hcall
        simp only at hcall
        cases hbo : fn.body with
        | none => rw [hbo] at hcall; cases hcall
        | some c => exact ⟨fn, rfl, by rw [hbo]; rfl⟩

/-- calls of f are taken from what is written down -/
noncomputable def Ctx.snap (C : Ctx) (f : FuncId) (ss : List Snap) : Ctx := ⟨C.P, fun g => bif Nat.beq g f then some (snapP ss) else C.prim g, C.ext⟩

theorem PrimOk.snaps {C : Ctx} (hP : PrimOk C) (hM : C.P.follows .mixedOrders = true) (hN : NamesOk C.P) {f : FuncId} (hf : Nat.beq f yieldId = false) {ss : List Snap}
    (hrun : ∀ s ∈ ss, ∃ D : Ctx, D.P = C.P ∧ D.ext f = none ∧ PrimOk D ∧ ∃ n, s.good D n f = true) : PrimOk (C.snap f ss) := by
  refine ⟨fun g p args h v h' hp he => ?_, hP.2⟩
  simp only [Ctx.snap, cond_beq] at hp
  by_cases hg : g = f
  · rw [if_pos hg] at hp
    cases hp
    subst hg
    exact snapP_ok hM hN hf hrun he
  · rw [if_neg hg] at hp
    exact hP.1 g p args h v h' hp he

theorem PrimOk.snap {C : Ctx} (hP : PrimOk C) (hM : C.P.follows .mixedOrders = true) (hN : NamesOk C.P) {f : FuncId} (hf : Nat.beq f yieldId = false) (hx : C.ext f = none) {ss : List Snap}
    {D : Ctx} (hPD : PrimOk D) (hDP : D.P = C.P) (hDx : D.ext = C.ext) (hrun : ∀ s ∈ ss, ∃ n, s.good D n f = true) : PrimOk (C.snap f ss) :=
  hP.snaps hM hN hf fun s hs => ⟨D, hDP, by rw [hDx]; exact hx, hPD, hrun s hs⟩
end Go.Proofs.YtpfmfpakbfkfoaaGreatDoor.Am

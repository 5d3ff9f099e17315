/- The abstract machine and its walks (a verified interpreter of the model's code: plain definitions and lemmas, no condition). -/
import Derived.Test.YtjbiefneffiogaaGreatM2
import Derived.Scope
import Derived.IntWalk
set_option linter.unusedSectionVars false
set_option linter.unusedSimpArgs false
set_option linter.unusedVariables false

namespace Go.Proofs.YtjbiefneffiogaaGreat.Am
variable [Lay]
open Go Go.RowKit
def toExit : Ex → Exit
  | .normal => .normal
  | .exit id => .exit id
  | .ret => .ret
def PrimOk (C : Ctx) : Prop :=
  ∀ f p args h v h', C.prim f = some p → p.run args h = .val v h' → (∃ fn, C.P.funcs[f]? = some fn ∧ fn.body.isSome = true) ∧ ∀ (w0 : Fr) E w xs, RelL E args xs → Sim w0 E h w →
    Calls C.P f xs.toArray w fun e w' => ∃ E' x, e = .returned x ∧ E.le E' ∧ Rel E' v x ∧ Sim w0 E' h' w'
def wpX (P : Program) (c : Code) (Q : Exit → Act → World → Prop) (a : Act) (w : World) : Prop :=
  match c with
  | .loop x => ∀ (b : Frame) (k : List Item) (cs : List Frame), ∃ e a' w', Q e a' w' ∧ Arrives P (lone (b.at a (.code x :: .inLoop x :: k)) cs w) b k cs e a' w'
  | c => c.wp P Q a w
theorem wpX.wp {P : Program} {c : Code} {Q : Exit → Act → World → Prop} {a : Act} {w : World} (h : wpX P c Q a w) : c.wp P Q a w := by
  cases c with
  | loop x =>
    intro b k cs
    obtain ⟨e, a', w', q, r⟩ := h b k cs
    exact ⟨e, a', w', q, .of_steps (.one step_loop) r⟩
  | _ => exact h
def CodeOk (P : Program) (nt : Nat) (c : Code) (run : Regs → Heap → CR) : Prop :=
  ∀ (w0 : Fr) r h e r' h', run r h = .ok e r' h' → ∀ E a w, RegRel E nt r a → Sim w0 E h w → ∀ Q : Exit → Act → World → Prop,
    (∀ E' a' w', E.le E' → RegRel E' nt r' a' → Sim w0 E' h' w' → Q (toExit e) a' w') → wpX P c Q a w
def ExecOk (P : Program) (ex : ExecF) : Prop := ∀ nt c, CodeOk P nt c (ex nt c)
def resOne (tmps : Array Value) : ResultVar → Sem Value
  | .tmp t => pure (tmps.getD t undef)
  | .cell b t => do loadVar t (← asAddr (tmps.getD b undef))
theorem resC_sound {P : Program} {w0 : Fr} {E : Env} {nt : Nat} {r : Regs} {h : Heap} {a : Act} {w : World} (k : RegRel E nt r a) (s : Sim w0 E h w) : ∀ {l : List ResultVar} {vs : List V}, (resC P nt l).run r h = some vs →
    ∃ xs, RelL E vs xs ∧ (l.mapM (resOne a.tmps)).run P w = .ok xs w
  | [], vs, he => by
    simp only [resC, Option.some.injEq] at he
    subst he
    exact ⟨[], rfl, rfl⟩
  | .tmp t :: l, vs, he => by
    simp only [resC] at he
    cases hc : (Nat.ble t top && Nat.blt t nt) with
    | false => rw [hc] at he; cases he
    | true =>
      rw [hc] at he
      simp only [cond_true] at he
      simp only [Bool.and_eq_true, Nat.ble_eq] at hc
      cases hr : (resC P nt l).run r h with
      | none => rw [hr] at he; cases he
      | some us =>
        rw [hr] at he
        simp only [Option.some.injEq] at he
        subst he
        obtain ⟨xs, h1, h2⟩ := resC_sound k s hr
        refine ⟨_ :: xs, by simp only [RelL]; exact ⟨_, _, rfl, k.reg t hc.1, h1⟩, ?_⟩
        rw [List.mapM_cons, Sem.run_bind]
        simp only [resOne, Sem.run_pure, Result.andThen_ok, Sem.run_bind, h2]
  | .cell b t :: l, vs, he => by
    simp only [resC] at he
    cases hc : (Nat.ble b top && Nat.blt b nt) with
    | false => rw [hc] at he; cases he
    | true =>
      rw [hc] at he
      simp only [cond_true] at he
      simp only [Bool.and_eq_true, Nat.ble_eq] at hc
      cases hv : (loadC P t).run h (T.get .bad (pa b) r) with
      | none => rw [hv] at he; cases he
      | some v =>
        rw [hv] at he
        simp only at he
        cases hr : (resC P nt l).run r h with
        | none => rw [hr] at he; cases he
        | some us =>
          rw [hr] at he
          simp only [Option.some.injEq] at he
          subst he
          obtain ⟨xs, h1, h2⟩ := resC_sound k s hr
          obtain ⟨Y, _, hR, A, hA, hY⟩ := loadC_sound (P := P) s (k.reg b hc.1) hv
          refine ⟨Y :: xs, by simp only [RelL]; exact ⟨_, _, rfl, hR, h1⟩, ?_⟩
          rw [List.mapM_cons, Sem.run_bind]
          simp only [resOne, hA, asAddr, Sem.run_bind, Sem.run_pure, Result.andThen_ok, hY, h2]
theorem argRegs_get : ∀ (args : List V) (i : Nat) (t : Regs) (j : Nat), i + args.length ≤ top + 1 → j ≤ top →
    T.get .bad (pa j) (argRegs i args t) = if i ≤ j ∧ j < i + args.length then (args[j - i]?).getD .bad else T.get .bad (pa j) t
  | [], i, t, j, _, _ => by
    have : ¬ (i ≤ j ∧ j < i) := by omega
    simp [argRegs, this]
  | v :: vs, i, t, j, h, hj => by
    simp only [List.length_cons] at h ⊢
    rw [argRegs, argRegs_get vs _ _ _ (by omega) hj]
    by_cases h1 : i + 1 ≤ j ∧ j < i + 1 + vs.length
    · rw [if_pos h1, if_pos (by omega)]
      have : j - i = (j - (i + 1)) + 1 := by omega
      rw [this, List.getElem?_cons_succ]
    · rw [if_neg h1, T.get_put]
      by_cases h2 : j = i
      · subst h2; rw [if_pos rfl, if_pos (by omega)]; simp
      · rw [if_neg (fun e => h2 (pa_inj e).symm), if_neg (by omega)]
theorem oneOf_rel {E : Env} {vs : List V} {xs : List Value} (h : RelL E vs xs) (fn : Func) (a : Act) (P : Program) (w : World)
    (hr : (fn.results.toList.mapM (resOne a.tmps)).run P w = .ok xs w) : ∃ x, (results fn a.tmps).run P w = .ok x w ∧ Rel E (oneOf vs) x := by
  have hmap : (fn.results.mapM (resOne a.tmps)).run P w = .ok xs.toArray w := by
    rw [Array.mapM_eq_mapM_toList, Sem.run_map, hr]
    rfl
  have hdef : results fn a.tmps = (do
      let vs ← fn.results.mapM (resOne a.tmps)
      pure (if h : vs.size = 1 then vs[0] else .tuple vs)) := by
    unfold results
    have : (fun x => match x with
      | ResultVar.tmp t => (pure (a.tmps.getD t undef) : Sem Value)
      | ResultVar.cell b t => do loadVar t (← asAddr (a.tmps.getD b undef))) = resOne a.tmps := by
      funext x
      cases x <;> rfl
    rw [← this]
    rfl
  have hres : (results fn a.tmps).run P w = .ok (if h : xs.toArray.size = 1 then xs.toArray[0] else .tuple xs.toArray) w := by
    rw [hdef, Sem.run_bind, hmap]
    rfl
  refine ⟨_, hres, ?_⟩
  match vs, h with
  | [], h =>
    simp only [RelL] at h
    subst h
    simp only [oneOf, Rel]
    exact ⟨#[], rfl, rfl⟩
  | [v], h =>
    simp only [RelL] at h
    obtain ⟨y, ys, rfl, hy, rfl⟩ := h
    simpa [oneOf] using hy
  | v :: u :: vs, h =>
    have hl := h.length
    have hne : ¬ xs.toArray.size = 1 := by simp at hl ⊢; omega
    rw [dif_neg hne]
    simp only [oneOf, Rel]
    exact ⟨_, rfl, by simpa using h⟩
section
variable {C : Ctx}
theorem fnC_body {f : FuncId} {ex : ExecF} {args : List V} {h h' : Heap} {v : V} (he : (fnC C.P f).run ex args h = .val v h') : ∃ fn, C.P.funcs[f]? = some fn ∧ fn.body.isSome = true := by
  unfold fnC at he
  cases hf : C.P.funcs[f]? with
  | none => rw [hf] at he; cases he
  | some fn =>
    rw [hf] at he
    simp only at he
    cases hb : fn.body with
    | none => rw [hb] at he; cases he
    | some c => exact ⟨fn, rfl, by rw [hb]; rfl⟩
theorem callBody (hP : PrimOk C) (ex : ExecF) : CallBody C.P (callWith C ex) := by
  intro f args h v h' he
  trivial
theorem callHas (hP : PrimOk C) (ex : ExecF) {f : FuncId} {args : List V} {h h' : Heap} {v : V} (he : callWith C ex f args h = .val v h') : ∃ fn, C.P.funcs[f]? = some fn ∧ fn.body.isSome = true := by
  unfold callWith fnP at he
  cases hp : C.prim f with
  | some p => rw [hp] at he; exact (hP f p args h v h' hp he).1
  | none => rw [hp] at he; exact fnC_body he
theorem callOk (hP : PrimOk C) {ex : ExecF} (hex : ExecOk C.P ex) : CallOk C.P (callWith C ex) := by
  intro w0 f args h v h' he E w xs hl s
  unfold callWith fnP at he
  cases hp : C.prim f with
  | some p => rw [hp] at he; exact .inl ⟨(hP f p args h v h' hp he).1, (hP f p args h v h' hp he).2 w0 E w xs hl s⟩
  | none =>
    rw [hp] at he
    simp only at he
    refine .inl ⟨fnC_body he, ?_⟩
    unfold fnC at he
    cases hf : C.P.funcs[f]? with
    | none => rw [hf] at he; cases he
    | some fn =>
      rw [hf] at he
      simp only at he
      cases hb : fn.body with
      | none => rw [hb] at he; cases he
      | some c =>
        rw [hb] at he
        simp only at he
        cases hnt : Nat.ble fn.ntmps top with
        | false => rw [hnt] at he; cases he
        | true =>
          rw [hnt] at he
          simp only [cond_true, fnRun] at he
          rw [Nat.ble_eq] at hnt
          obtain ⟨hal, he1⟩ := cond_val he
          rw [Nat.ble_eq] at hal
          cases hrun : ex fn.ntmps c (argRegs 0 args .e) h with
          | fail => rw [hrun] at he1; cases he1
          | ok e r' h1 =>
            rw [hrun] at he1
            simp only at he1
            have hlen := hl.length
            have k : RegRel E fn.ntmps (argRegs 0 args .e) { tmps := xs.toArray ++ Array.replicate (fn.ntmps - xs.toArray.size) undef, defers := [] } := by
              refine ⟨by simp; omega, rfl, fun t ht => ?_⟩
              rw [argRegs_get _ _ _ _ (by omega) ht]
              by_cases hlt : t < args.length
              · rw [if_pos (by omega), Nat.sub_zero, List.getElem?_eq_getElem hlt]
                obtain ⟨y, hy, hR⟩ := hl.get t args[t] (List.getElem?_eq_getElem hlt)
                simp only [Option.getD_some]
                have : (xs.toArray ++ Array.replicate (fn.ntmps - xs.toArray.size) undef).getD t undef = y := by
                  rw [Array.getD_eq_getD_getElem?, Array.getElem?_append_left (by simp; omega)]
                  simp [hy]
                rw [this]; exact hR
              · rw [if_neg (by omega)]
                simp [Rel]
            refine calls_of_wp hf hb ?_
            have post : ∀ vs, (resC C.P fn.ntmps fn.results.toList).run r' h1 = some vs → oneOf vs = v → h1 = h' → ∀ E' a' w', E.le E' → RegRel E' fn.ntmps r' a' → Sim w0 E' h1 w' →
                a'.defers = [] ∧ ∃ x, (results fn a'.tmps).run C.P w' = .ok x w' ∧ ∃ E2 x2, Ending.returned x = .returned x2 ∧ E.le E2 ∧ Rel E2 v x2 ∧ Sim w0 E2 h' w' := by
              intro vs hv hov hhh E' a' w' q1 q2 q3
              obtain ⟨ys, p1, p2⟩ := resC_sound (P := C.P) q2 q3 hv
              obtain ⟨x, p3, p4⟩ := oneOf_rel p1 fn a' C.P w' p2
              exact ⟨q2.defers, x, p3, E', x, rfl, q1, hov ▸ p4, hhh ▸ q3⟩
            have fin : ∀ e', e = e' → (e' = .normal ∨ e' = .ret) → (match (resC C.P fn.ntmps fn.results.toList).run r' h1 with
                | some vs => OR.val (oneOf vs) h1
                | none => .fail) = .val v h' → c.wp C.P (bodyPost C.P fn fun e w' => ∃ E' x, e = .returned x ∧ E.le E' ∧ Rel E' v x ∧ Sim w0 E' h' w') { tmps := xs.toArray ++ Array.replicate (fn.ntmps - xs.toArray.size) undef, defers := [] } w := by
              intro e' hee hor hres
              subst hee
              cases hv : (resC C.P fn.ntmps fn.results.toList).run r' h1 with
              | none => rw [hv] at hres; cases hres
              | some vs =>
                rw [hv] at hres
                simp only [OR.val.injEq] at hres
                refine (hex fn.ntmps c w0 _ _ _ _ _ hrun E _ w k s _ fun E' a' w' q1 q2 q3 => ?_).wp
                have := post vs hv hres.1 hres.2 E' a' w' q1 q2 q3
                rcases hor with rfl | rfl <;> exact this
            cases e with
            | normal => exact fin _ rfl (.inl rfl) he1
            | ret => exact fin _ rfl (.inr rfl) he1
            | exit id => cases he1
theorem codeC_sound (hM : C.P.follows .mixedOrders = true) (hN : NamesOk C.P) (hP : PrimOk C) {ex : ExecF} (hex : ExecOk C.P ex) (nt : Nat) : ∀ c : Code, CodeOk C.P nt c ((codeC C nt c).run ex) := by
  have hcall := callOk hP hex
  have hbody := callBody hP ex
  intro c
  induction c with
  | skip =>
    intro w0 r h e r' h' he E a w k s Q hQ
    simp only [codeC, CR.ok.injEq] at he
    obtain ⟨rfl, rfl, rfl⟩ := he
    exact wp_skip (hQ E a w (Env.le.refl E) k s)
  | label l =>
    intro w0 r h e r' h' he E a w k s Q hQ
    simp only [codeC, CR.ok.injEq] at he
    obtain ⟨rfl, rfl, rfl⟩ := he
    exact wp_label (hQ E a w (Env.le.refl E) k s)
  | exit id =>
    intro w0 r h e r' h' he E a w k s Q hQ
    simp only [codeC, CR.ok.injEq] at he
    obtain ⟨rfl, rfl, rfl⟩ := he
    exact wp_exit (hQ E a w (Env.le.refl E) k s)
  | ret =>
    intro w0 r h e r' h' he E a w k s Q hQ
    simp only [codeC, CR.ok.injEq] at he
    obtain ⟨rfl, rfl, rfl⟩ := he
    exact wp_ret (hQ E a w (Env.le.refl E) k s)
  | region id ops draw =>
    intro w0 r h e r' h' he E a w k s Q hQ
    cases draw with
    | true =>
      simp only [codeC, cond_true, regRun] at he
      cases hr : (drawC C.P nt ops).run (callWith C ex) r h with
      | fail => rw [hr] at he; cases he
      | ok r1 h1 =>
        rw [hr] at he
        simp only [CR.ok.injEq] at he
        obtain ⟨rfl, rfl, rfl⟩ := he
        exact drawC_sound hM hN hcall hbody hr k s hQ
    | false =>
      simp only [codeC, cond_false, regRun] at he
      cases hr : (opsC C.P nt ops ops.toList).run (callWith C ex) r h with
      | fail => rw [hr] at he; cases he
      | ok r1 h1 =>
        rw [hr] at he
        simp only [CR.ok.injEq] at he
        obtain ⟨rfl, rfl, rfl⟩ := he
        refine wp_region ?_
        have := opsC_sound (Q := Q) hN hcall hbody ops.toList 0 (fun j => by simp) E r r1 h h1 a w hr k s hQ
        rw [List.range_eq_range']
        simpa using this
  | seq x y ihx ihy =>
    intro w0 r h e r' h' he E a w k s Q hQ
    simp only [codeC, seqCode] at he
    cases hr : (codeC C nt x).run ex r h with
    | fail => rw [hr] at he; cases he
    | ok e1 r1 h1 =>
      rw [hr] at he
      simp only at he
      refine wp_seq (ihx w0 r h e1 r1 h1 hr E a w k s _ fun E' a' w' q1 q2 q3 => ?_).wp
      cases e1 with
      | normal => exact (ihy w0 r1 h1 e r' h' he E' a' w' q2 q3 Q fun E2 a2 w2 p1 p2 p3 => hQ E2 a2 w2 (q1.trans p1) p2 p3).wp
      | exit id => simp only [CR.ok.injEq] at he; obtain ⟨rfl, rfl, rfl⟩ := he; exact hQ E' a' w' q1 q2 q3
      | ret => simp only [CR.ok.injEq] at he; obtain ⟨rfl, rfl, rfl⟩ := he; exact hQ E' a' w' q1 q2 q3
  | cond c x y ihx ihy =>
    intro w0 r h e r' h' he E a w k s Q hQ
    simp only [codeC, condCode] at he
    have hc := evC_sound k c
    cases hv : (evC c).run r <;> rw [hv] at he hc <;> simp only at he <;> try (cases he; done)
    rename_i t
    simp only [Rel] at hc
    cases t with
    | true => exact wp_cond_true hc (ihx w0 r h e r' h' he E a w k s Q hQ).wp
    | false => exact wp_cond_false hc (ihy w0 r h e r' h' he E a w k s Q hQ).wp
  | block id x ih =>
    intro w0 r h e r' h' he E a w k s Q hQ
    simp only [codeC, blockCode] at he
    cases hr : (codeC C nt x).run ex r h with
    | fail => rw [hr] at he; cases he
    | ok e1 r1 h1 =>
      rw [hr] at he
      simp only at he
      refine wp_block (ih w0 r h e1 r1 h1 hr E a w k s _ fun E' a' w' q1 q2 q3 => ?_).wp
      cases e1 with
      | normal => simp only [CR.ok.injEq] at he; obtain ⟨rfl, rfl, rfl⟩ := he; exact hQ E' a' w' q1 q2 q3
      | ret => simp only [CR.ok.injEq] at he; obtain ⟨rfl, rfl, rfl⟩ := he; exact hQ E' a' w' q1 q2 q3
      | exit i =>
        simp only [cond_beq] at he
        simp only [toExit, Exit.inBlock]
        by_cases hi : i = id
        · rw [if_pos hi] at he ⊢
          simp only [CR.ok.injEq] at he; obtain ⟨rfl, rfl, rfl⟩ := he; exact hQ E' a' w' q1 q2 q3
        · rw [if_neg hi] at he ⊢
          simp only [CR.ok.injEq] at he; obtain ⟨rfl, rfl, rfl⟩ := he; exact hQ E' a' w' q1 q2 q3
  | loop x ih =>
    intro w0 r h e r' h' he E a w k s Q hQ
    simp only [codeC, loopCode] at he
    cases hr : (codeC C nt x).run ex r h with
    | fail => rw [hr] at he; cases he
    | ok e1 r1 h1 =>
      rw [hr] at he
      simp only at he
      intro b kk cs
      have body := (ih w0 r h e1 r1 h1 hr E a w k s
        (fun e' a' w' => e' = toExit e1 ∧ ∃ E', E.le E' ∧ RegRel E' nt r1 a' ∧ Sim w0 E' h1 w') (fun E' a' w' q1 q2 q3 => ⟨rfl, E', q1, q2, q3⟩)).wp b (.inLoop x :: kk) cs
      obtain ⟨e2, a2, w2, ⟨rfl, E2, q1, q2, q3⟩, harr⟩ := body
      cases e1 with
      | normal =>
        have next := hex nt (.loop x) w0 r1 h1 e r' h' he E2 a2 w2 q2 q3 Q (fun E4 a4 w4 t1 t2 t3 => hQ E4 a4 w4 (q1.trans t1) t2 t3)
        obtain ⟨e3, a3, w3, p1, p2⟩ := next b kk cs
        exact ⟨e3, a3, w3, p1, .of_steps (Steps.trans harr (.one step_inLoop)) p2⟩
      | exit id =>
        simp only [CR.ok.injEq] at he; obtain ⟨rfl, rfl, rfl⟩ := he
        exact ⟨.exit id, a2, w2, hQ E2 a2 w2 q1 q2 q3, .pass (x := .inLoop x) rfl (fun _ _ => .inl (by simp)) harr⟩
      | ret =>
        simp only [CR.ok.injEq] at he; obtain ⟨rfl, rfl, rfl⟩ := he
        exact ⟨.ret, a2, w2, hQ E2 a2 w2 q1 q2 q3, .pass (x := .inLoop x) rfl (fun _ _ => .inl (by simp)) harr⟩
  | scope x ih =>
    intro w0 r h e r' h' he E a w k s Q hQ
    simp only [codeC] at he
    refine wp_scope_straight (ih w0 r h e r' h' he E a w k s _ fun E' a' w' q1 q2 q3 => ?_).wp
    have := hQ E' a' w' q1 q2 q3
    cases e <;> exact this
  | rangeFunc f ps x y _ _ => intro w0 r h e r' h' he; simp [codeC] at he
  | goto l => intro w0 r h e r' h' he; simp [codeC] at he
  | refuse why => intro w0 r h e r' h' he; simp [codeC] at he
theorem exec_ok (hM : C.P.follows .mixedOrders = true) (hN : NamesOk C.P) (hP : PrimOk C) : ∀ n, ExecOk C.P (exec C n)
  | 0 => fun nt c w0 r h e r' h' he => by simp [exec] at he
  | n + 1 => fun nt c => codeC_sound hM hN hP (exec_ok hM hN hP n) nt c
theorem callN_sound (hM : C.P.follows .mixedOrders = true) (hN : NamesOk C.P) (hP : PrimOk C) (n : Nat) : CallOk C.P (callN C n) := callOk hP (exec_ok hM hN hP n)
theorem sim_empty (w : World) (hw : Lay.ok w) : Sim ⟨w, fun _ => none⟩ (fun _ => none) Heap.empty w := by
  refine ⟨fun b _ => ?_, fun _ _ h => (by cases h), (fun b b' p p' _ _ h => by cases h), fun _ _ => rfl, Below.refl _ _, hw, (fun _ _ _ _ _ _ h => by cases h)⟩
  have : Heap.empty.get b = .dead := by simp [Heap.get, Heap.empty]
  rw [this]
  trivial
theorem truly_sound (hM : C.P.follows .mixedOrders = true) (hN : NamesOk C.P) {w : World} (hw : Lay.ok w) (hP : PrimOk C) {n : Nat} {f : FuncId} (h : truly C n f [] = true) : Calls C.P f #[] w fun e w' => e = .returned (.bool true) ∧ Below w.heap.size w w' := by
  unfold truly at h
  cases hc : callN C n f [] Heap.empty with
  | fail => rw [hc] at h; cases h
  | val v hh =>
    rw [hc] at h
    simp only at h
    cases v <;> simp only at h <;> try (cases h; done)
    subst h
    have hbody : ∃ fn, C.P.funcs[f]? = some fn ∧ fn.body.isSome = true := callHas hP _ hc
    rcases callN_sound hM hN hP n ⟨w, fun _ => none⟩ f [] Heap.empty _ hh hc (fun _ => none) w [] rfl (sim_empty w hw) with ⟨_, hcl⟩ | ⟨E', x, w', hr, _⟩
    case inr =>
      obtain ⟨fn, h1, h2⟩ := hbody
      rw [run_callFunc hN h1 h2] at hr
      cases hr
    refine hcl.mono fun e w' hq => ?_
    obtain ⟨E', x, rfl, _, q2, q3⟩ := hq
    simp only [Rel] at q2
    subst q2
    exact ⟨rfl, q3.frame⟩
end
end Go.Proofs.YtjbiefneffiogaaGreat.Am

namespace Go.Proofs.YtjbiefneffiogaaGreat.Am
variable [Lay]
open Go Go.RowKit
inductive RX where
  | t (n : Nat)
  | c (v : V)
abbrev RF := Nat → V
def RX.ev (r : RF) : RX → V
  | .t n => r n
  | .c v => v
def RX.evs (r : RF) : List RX → List V
  | [] => []
  | x :: xs => x.ev r :: RX.evs r xs
def rx : Operand → RX
  | .tmp t => bif Nat.ble t top then .t t else .c .bad
  | .const v => .c (ofVal v)
  | .func f => .c (.func f [])
  | .global _ => .c .bad
def rxs : List Operand → List RX
  | [] => []
  | x :: xs => rx x :: rxs xs
def RX.opt (r : RF) : Option RX → Option V
  | none => none
  | some x => some (x.ev r)
def rxo : Option Operand → Option RX
  | none => none
  | some x => some (rx x)
inductive BK where
  | int (op : BinOp)
  | str (op : BinOp)
  | shl
  | shr
  | eqb (neg : Bool)
  | eqn (neg : Bool) (k : Nat)
  | other (op : BinOp) (t : TypeId)
noncomputable def BK.run (P : Program) : BK → V → V → Option V
  | .int op => (intC op).run
  | .str op => (strC op).run
  | .shl => (shiftC true).run
  | .shr => (shiftC false).run
  | .eqb neg => (eqBin neg eqBoolC).run
  | .eqn neg k => (eqBin neg (eqNilC k)).run
  | .other op t => (binC P op t).run
inductive CK where
  | int (k : IntKind)
  | bytes
  | str
  | other (s d : TypeId)
noncomputable def CK.run (P : Program) : CK → V → Heap → OR
  | .int k => fun x h => x.onInt .fail fun _ n => .val (.int k (k.wrap n)) h
  | .bytes => convBytes.run
  | .str => convStr.run
  | .other s d => (convC P s d).run
inductive KK where
  | int | str | bool
def KK.eq : KK → EqC
  | .int => eqIntC
  | .str => eqStrC
  | .bool => eqBoolC
inductive LK where
  | arr (n : Nat)
  | str
  | slice
  | map
inductive G where
  | bad
  | mv (x : RX)
  | pick (c a b : RX)
  | new (z : List V)
  | box (x : RX)
  | build (z : List V) (ps : List (Nat × Nat × RX))
  | bsl (len size : Nat) (z : List V) (ps : List (Nat × Nat × RX))
  | ld1 (x : RX)
  | ldn (size : Nat) (x : RX)
  | st (size : Nat) (x y : RX)
  | nilck (x : RX)
  | bin (k : BK) (x y : RX)
  | un (op : UnOp) (x : RX)
  | cv (k : CK) (x : RX)
  | fn (f : FuncId) (caps : List RX)
  | ifc (t : TypeId) (x : RX)
  | mksl (size : Nat) (z : List V) (l c : RX)
  | slstr (x : RX) (lo hi mx : Option RX)
  | sl (size : Nat) (x : RX) (lo hi mx : Option RX)
  | fa (off : Nat) (x : RX)
  | fld1 (off : Nat) (x : RX)
  | fldn (off size : Nat) (x : RX)
  | ia (size : Nat) (x i : RX)
  | iaa (n size : Nat) (x i : RX)
  | ixs (x i : RX)
  | ix (t : TypeId) (x i : RX)
  | look (k : KK) (z : V) (ok : Bool) (x i : RX)
  | upd (k : KK) (m i x : RX)
  | mkm (x : Option RX)
  | rngs (x : RX)
  | nxt (x : RX)
  | ext (x : RX) (i : Nat)
  | call (f : FuncId) (args : List RX)
  | callv (f : RX) (args : List RX)
  | len (k : LK) (x : RX)
  | app (size : Nat) (s x : RX)
  | copy (size : Nat) (d s : RX)
  | mn (args : List RX)
  | mx (args : List RX)
  | clr (z : List V) (x : RX)
def evPs (r : RF) : List (Nat × Nat × RX) → List (Nat × Nat × V)
  | [] => []
  | (o, s, x) :: ps => (o, s, x.ev r) :: evPs r ps
def fillR : List V → List (Nat × Nat × V) → Option (List V)
  | cells, [] => some cells
  | cells, (off, size, v) :: rest => bif v.good && (Nat.beq v.cells.length size && Nat.ble (off + v.cells.length) cells.length) then fillR (fillAt cells off v.cells) rest else none
noncomputable def LK.run : LK → V → Heap → OR
  | .arr n => fun _ h => .val (.int .i64 n) h
  | .str => fun x h => OR.of h ((lenOne .string).run x)
  | .slice => fun x h => OR.of h ((lenOne (.slice 0)).run x)
  | .map => fun x h => lenMap [x] h
noncomputable def G.run (P : Program) (g : G) (call : CallF) (r : RF) (h : Heap) : OR :=
  match g with
  | .bad => .fail
  | .mv x => .val (x.ev r) h
  | .pick c a b => match c.ev r with
    | .bool t => .val (bif t then a.ev r else b.ev r) h
    | _ => .fail
  | .new z => orHeap (.ptr (pa h.next) 0) (newCells h z)
  | .box x => bif (x.ev r).good then orHeap (.ptr (pa h.next) 0) (newCells h (x.ev r).cells) else .fail
  | .build z ps => (match fillR z (evPs r ps) with
    | some cs => .val (.agg cs) h
    | none => .fail)
  | .bsl n _ z ps => match fillR (repeatV z n) (evPs r ps) with
    | some cs => (match newCells h cs with
      | some h' => .val (.slice (pa h.next) 0 n n) h'
      | none => .fail)
    | none => .fail
  | .ld1 x => OR.of h (loadOne h (x.ev r))
  | .ldn n x => OR.of h (loadMany n h (x.ev r))
  | .st n x y => orHeap .bad (storeV n h (x.ev r) (y.ev r))
  | .nilck x => OR.of h (nilCheckV (x.ev r))
  | .bin k x y => OR.of h (k.run P (x.ev r) (y.ev r))
  | .un op x => OR.of h (unV op (x.ev r))
  | .cv k x => k.run P (x.ev r) h
  | .fn f caps => .val (.func f (RX.evs r caps)) h
  | .ifc t x => .val (.iface t (x.ev r)) h
  | .mksl n z l c => makeSliceV n z (l.ev r) (c.ev r) h
  | .slstr x lo hi m3 => OR.of h (sliceStr (x.ev r) (RX.opt r lo) (RX.opt r hi) (RX.opt r m3))
  | .sl n x lo hi m3 => OR.of h (match x.ev r with
    | .nilslice => sliceNil (RX.opt r lo) (RX.opt r hi) (RX.opt r m3)
    | .slice b off ln cap => sliceKnown n b off ln cap (RX.opt r lo) (RX.opt r hi) (RX.opt r m3)
    | .gslice b off ln idx => sliceGrown n b off ln idx (RX.opt r lo) (RX.opt r hi) (RX.opt r m3)
    | .tslice b off off' idx => sliceTail b off off' idx (RX.opt r lo) (RX.opt r hi) (RX.opt r m3)
    | _ => none)
  | .fa off x => OR.of h ((x.ev r).onPtr none fun b o => some (.ptr b (o + off)))
  | .fld1 off x => OR.of h (match x.ev r with
    | .agg cs => cs[off]?
    | _ => none)
  | .fldn off n x => OR.of h (match x.ev r with
    | .agg cs => some (.agg ((cs.drop off).take n))
    | _ => none)
  | .ia n x i => OR.of h ((indexSlice n).run (x.ev r) (i.ev r))
  | .iaa n s x i => OR.of h ((indexArr n s).run (x.ev r) (i.ev r))
  | .ixs x i => OR.of h (indexStr.run (x.ev r) (i.ev r))
  | .ix t x i => OR.of h ((indexC P t).run (x.ev r) (i.ev r))
  | .look k z ok x i => OR.of h (lookupV k.eq z ok h (x.ev r) (i.ev r))
  | .upd k m i x => orHeap .bad (updV k.eq h (m.ev r) (i.ev r) (x.ev r))
  | .mkm x => makeMapV (RX.opt r x) h
  | .rngs x => (match x.ev r with
    | .str s => .val (.ptr (pa h.next) 0) (h.new (.iter s 0))
    | _ => .fail)
  | .nxt x => nextV (x.ev r) h
  | .ext x i => (match x.ev r with
    | .tuple vs => OR.of h vs[i]?
    | _ => .fail)
  | .call f args => call f (RX.evs r args) h
  | .callv f args => (f.ev r).onFunc fun g cs => call g (RX.evs r args ++ cs) h
  | .len k x => k.run (x.ev r) h
  | .app n s x => appV n (s.ev r) (x.ev r) h
  | .copy n d s => copyV n (d.ev r) (s.ev r) h
  | .mn args => OR.of h (pickV (fun b a => !Int.leB a b) (RX.evs r args))
  | .mx args => OR.of h (pickV (fun b a => !Int.leB b a) (RX.evs r args))
  | .clr z x => clearV z (x.ev r) h
def resBin (P : Program) (op : BinOp) (t : TypeId) : BK :=
  match op with
  | .shl => .shl
  | .shr => .shr
  | op => match tiOf P t with
    | none => .other op t
    | some ti => match ti.und with
      | .int _ => .int op
      | .string => .str op
      | .bool => (match op with
        | .eql => .eqb false
        | .neq => .eqb true
        | _ => .other op t)
      | .pointer _ => (match op with
        | .eql => .eqn false 1
        | .neq => .eqn true 1
        | _ => .other op t)
      | .slice _ => (match op with
        | .eql => .eqn false 2
        | .neq => .eqn true 2
        | _ => .other op t)
      | .map _ _ => (match op with
        | .eql => .eqn false 3
        | .neq => .eqn true 3
        | _ => .other op t)
      | .func _ _ _ => (match op with
        | .eql => .eqn false 4
        | .neq => .eqn true 4
        | _ => .other op t)
      | _ => .other op t
def resLit (P : Program) (op : BinOp) (t : TypeId) (lit : Bool) : BK :=
  bif lit then (match tiOf P t with
    | some ti => match ti.und with
      | .interface _ => match op with
        | .eql => .eqn false 5
        | .neq => .eqn true 5
        | _ => .eqn false 99
      | _ => .eqn false 99
    | none => .eqn false 99) else resBin P op t
def resConv (P : Program) (s d : TypeId) : CK :=
  match tiOf P s, tiOf P d with
  | some si, some di => match di.und with
    | .int k => .int k
    | .string => match si.und with
      | .slice e => match tiOf P e with
        | some ei => match ei.und with
          | .int .u8 => .str
          | _ => .other s d
        | none => .other s d
      | _ => .other s d
    | .slice e => match tiOf P e with
      | some ei => match ei.und with
        | .int .u8 => .bytes
        | _ => .other s d
      | none => .other s d
    | _ => .other s d
  | _, _ => .other s d
def placesR (place : Nat → Option (Nat × Nat)) : List (Nat × Operand) → Option (List (Nat × Nat × RX))
  | [] => some []
  | (i, x) :: ps => match place i with
    | none => none
    | some (off, size) => match placesR place ps with
      | none => none
      | some l => some ((off, size, rx x) :: l)
def resBuild (P : Program) (t : TypeId) (ps : List (Nat × Operand)) : G :=
  match tiOf P t with
  | some ti => match ti.zero with
    | some z => match ti.und with
      | .struct fs => bif fieldsKnown P fs.toList then (match placesR (fieldPlaceD P fs) ps with
        | some l => .build z.cells l
        | none => .bad) else .bad
      | .array _ e => match tiOf P e with
        | some ei => (match placesR (fun i => some (i * ei.size, ei.size)) ps with
          | some l => .build z.cells l
          | none => .bad)
        | none => .bad
      | _ => .bad
    | none => .bad
  | none => .bad
def resSliceLit (P : Program) (t : TypeId) (len : Nat) (ps : List (Nat × Operand)) : G :=
  match tiOf P t with
  | some ti => match ti.und with
    | .slice e => match tiOf P e with
      | some ei => match ei.zero with
        | some z => bif Nat.ble (len * ei.size) 1000000 && Nat.beq z.cells.length ei.size then
            (match placesR (fun i => some (i * ei.size, ei.size)) ps with
            | some l => .bsl len ei.size z.cells l
            | none => .bad) else .bad
        | none => .bad
      | none => .bad
    | _ => .bad
  | none => .bad
def kindKK : TypeDesc → Option KK
  | .int _ => some .int
  | .string => some .str
  | .bool => some .bool
  | _ => none
def clrZ (P : Program) (t : TypeId) : Option (List V) :=
  match tiOf P t with
  | some ti => match ti.und with
    | .slice e => match tiOf P e with
      | some ei => match ei.zero with
        | some z => some z.cells
        | none => none
      | none => none
    | _ => none
  | none => none
theorem clrZ_eq (P : Program) (t : TypeId) : clearC P t = clrZ P t := rfl
def resCall (P : Program) (c : Call) : G :=
  match c.callee with
  | .value (.func f) => .call f (rxs c.args.toList)
  | .value x => .callv (rx x) (rxs c.args.toList)
  | .invoke _ _ => .bad
  | .builtin b => match b with
    | .len => match c.argTypes.toList, c.args.toList with
      | [t], [x] => (match tiOf P t with
        | some ti => (match ti.und with
          | .map _ _ => .len .map (rx x)
          | .array n _ => .len (.arr n) (rx x)
          | .string => .len .str (rx x)
          | .slice _ => .len .slice (rx x)
          | _ => .bad)
        | none => .bad)
      | _, _ => .bad
    | .append => match c.argTypes.toList, c.args.toList with
      | [t, u], [s, x] => (match tiOf P t, tiOf P u with
        | some ti, some ui => (match ui.und with
          | .int _ => .bad
          | _ => match ti.und with
            | .slice e => (match tiOf P e with
              | none => .bad
              | some ei => match ei.zero with
                | none => .bad
                | some z => bif Nat.ble 1 ei.size && Nat.ble ei.bytes 4096 && Nat.beq z.cells.length ei.size then .app ei.size (rx s) (rx x) else .bad)
            | _ => .bad)
        | _, _ => .bad)
      | _, _ => .bad
    | .copy => match c.argTypes.toList, c.args.toList with
      | t :: _, [d, s] => (match tiOf P t with
        | some ti => (match ti.und with
          | .slice e => (match tiOf P e with
            | some ei => .copy ei.size (rx d) (rx s)
            | none => .bad)
          | _ => .bad)
        | none => .bad)
      | _, _ => .bad
    | .min => .mn (rxs c.args.toList)
    | .max => .mx (rxs c.args.toList)
    | .clear => match c.argTypes.toList, c.args.toList with
      | [t], [x] => (match clrZ P t with
        | some z => .clr z (rx x)
        | none => .bad)
      | _, _ => .bad
    | _ => .bad
def resG (P : Program) (op : Op) : G :=
  match op with
  | .move x => .mv (rx x)
  | .assign x => .mv (rx x)
  | .pick c a b => .pick (rx c) (rx a) (rx b)
  | .alloc t => (match tiOf P t with
    | some ti => (match ti.zero with
      | some z => .new z.cells
      | none => .bad)
    | none => .bad)
  | .box _ x => .box (rx x)
  | .build t ps => resBuild P t ps.toList
  | .buildSlice t n ps => resSliceLit P t n ps.toList
  | .load t x => (match tiOf P t with
    | none => .bad
    | some ti => bif ti.agg then .ldn ti.size (rx x) else bif Nat.beq ti.size 1 then .ld1 (rx x) else .bad)
  | .store t x y => (match tiOf P t with
    | none => .bad
    | some ti => .st ti.size (rx x) (rx y))
  | .nilCheck x => .nilck (rx x)
  | .binOp op t x y _ => .bin (resLit P op t (litNil x || litNil y)) (rx x) (rx y)
  | .unOp op _ x => .un op (rx x)
  | .convert s d x => .cv (resConv P s d) (rx x)
  | .makeFunc (.func f) first caps => bif first.isEmpty then .fn f (rxs caps.toList) else .bad
  | .makeInterface t x => (match tiOf P t with
    | some ti => bif Nat.beq (nilKindD ti.und) 5 then .bad else .ifc t (rx x)
    | none => .bad)
  | .makeSlice t l c => (match tiOf P t with
    | some ti => (match ti.und with
      | .slice e => (match tiOf P e with
        | some ei => (match ei.zero with
          | some z => bif Nat.ble ei.bytes 4096 then .mksl ei.size z.cells (rx l) (rx c) else .bad
          | none => .bad)
        | none => .bad)
      | _ => .bad)
    | none => .bad)
  | .slice t x lo hi mx => (match tiOf P t with
    | none => .bad
    | some ti => match ti.und with
      | .string => .slstr (rx x) (rxo lo) (rxo hi) (rxo mx)
      | .slice e => (match tiOf P e with
        | none => .bad
        | some ei => .sl ei.size (rx x) (rxo lo) (rxo hi) (rxo mx))
      | _ => .bad)
  | .fieldAddr t x i => (match fieldD P t i with
    | none => .bad
    | some f => match tiOf P f.type with
      | none => .bad
      | some fi => bif Nat.beq fi.size 0 then .bad else .fa f.offset (rx x))
  | .field t x i => (match fieldD P t i with
    | none => .bad
    | some f => match tiOf P f.type with
      | none => .bad
      | some ti => bif ti.agg then .fldn f.offset ti.size (rx x) else .fld1 f.offset (rx x))
  | .indexAddr t x i => (match tiOf P t with
    | none => .bad
    | some ti => match ti.und with
      | .slice e => (match tiOf P e with
        | none => .bad
        | some ei => .ia ei.size (rx x) (rx i))
      | .array n e => (match tiOf P e with
        | none => .bad
        | some ei => .iaa n ei.size (rx x) (rx i))
      | _ => .bad)
  | .index t x i => (match tiOf P t with
    | none => .bad
    | some ti => match ti.und with
      | .string => .ixs (rx x) (rx i)
      | _ => .ix t (rx x) (rx i))
  | .range t x => (match tiOf P t with
    | some ti => (match ti.und with
      | .string => .rngs (rx x)
      | _ => .bad)
    | none => .bad)
  | .next it true => .nxt (rx it)
  | .lookup t x k ok => (match tiOf P t with
    | some ti => (match ti.und with
      | .map k' e => (match tiOf P k' with
        | some ki => (match tiOf P e with
          | some ei => (match ei.zero with
            | some z => (match kindKK ki.und with
              | some kk => .look kk z ok (rx x) (rx k)
              | none => .bad)
            | none => .bad)
          | none => .bad)
        | none => .bad)
      | _ => .bad)
    | none => .bad)
  | .mapUpdate t m k x | .insert t m k x => (match tiOf P t with
    | some ti => (match ti.und with
      | .map k' _ => (match tiOf P k' with
        | some ki => (match kindKK ki.und with
          | some kk => .upd kk (rx m) (rx k) (rx x)
          | none => .bad)
        | none => .bad)
      | _ => .bad)
    | none => .bad)
  | .makeMap t x => (match tiOf P t with
    | some ti => bif Nat.beq (nilKindD ti.und) 3 then .mkm (rxo x) else .bad
    | none => .bad)
  | .extract x i => .ext (rx x) i
  | .call c => resCall P c
  | _ => .bad
noncomputable def ofT (T' : Regs) : RF := fun t => T.get .bad (pa t) T'
theorem evC_ofT (T' : Regs) (x : Operand) : (evC x).run T' = (rx x).ev (ofT T') := by
  cases x with
  | tmp t =>
    simp only [evC, rx]
    cases Nat.ble t top <;> rfl
  | const v => rfl
  | func f => rfl
  | global g => rfl
theorem evsC_ofT (T' : Regs) : ∀ xs : List Operand, (evsC xs).run T' = RX.evs (ofT T') (rxs xs)
  | [] => rfl
  | x :: xs => by simp only [evsC, rxs, RX.evs, evC_ofT, evsC_ofT T' xs]
theorem optC_ofT (T' : Regs) (x : Option Operand) : (optC x).run T' = RX.opt (ofT T') (rxo x) := by
  cases x with
  | none => rfl
  | some x => simp only [optC, rxo, RX.opt, evC_ofT]
theorem fillR_ofT (T' : Regs) {place : Nat → Option (Nat × Nat)} : ∀ {ps : List (Nat × Operand)} {l : List (Nat × Nat × RX)}, placesR place ps = some l → ∀ cells, fillV place cells ((partsC ps).run T') = fillR cells (evPs (ofT T') l)
  | [], l, h, cells => by
    simp only [placesR, Option.some.injEq] at h
    subst h
    rfl
  | (i, x) :: ps, l, h, cells => by
    simp only [placesR] at h
    cases hp : place i with
    | none => rw [hp] at h; cases h
    | some os =>
      obtain ⟨off, size⟩ := os
      rw [hp] at h
      simp only at h
      cases hl : placesR place ps with
      | none => rw [hl] at h; cases h
      | some l' =>
        rw [hl] at h
        simp only [Option.some.injEq] at h
        subst h
        simp only [partsC, fillV, hp, evPs, fillR, evC_ofT]
        cases ((rx x).ev (ofT T')).good && (Nat.beq ((rx x).ev (ofT T')).cells.length size && Nat.ble (off + ((rx x).ev (ofT T')).cells.length) cells.length) with
        | false => rfl
        | true => exact fillR_ofT T' hl _
section
variable {P : Program}
theorem resBin_run (op : BinOp) (t : TypeId) : (resBin P op t).run P = (binC P op t).run := by
  unfold resBin binC
  cases op <;> first | rfl | skip
  all_goals
    cases ht : tiOf P t with
    | none => simp only [BK.run]; unfold binC; rw [ht]
    | some ti =>
      simp only
      cases hu : ti.und <;> first | rfl | (simp only [BK.run]; unfold binC; rw [ht]; simp only [hu]; done) | (simp only [BK.run]; unfold eqTop eqC; simp only [ht, hu]; first | done | rfl)
theorem resLit_run (op : BinOp) (t : TypeId) (lit : Bool) : (resLit P op t lit).run P = (binL P op t lit).run := by
  unfold resLit binL
  cases lit with
  | false => simp only [cond_false]; exact resBin_run op t
  | true =>
    simp only [cond_true]
    cases tiOf P t with
    | none => rfl
    | some ti =>
      simp only
      cases ti.und <;> first | rfl | (cases op <;> rfl)
theorem resConv_run (s d : TypeId) : (resConv P s d).run P = (convC P s d).run := by
  unfold resConv
  split
  · rename_i si di hs hd
    split
    · rename_i k hu
      simp only [CK.run]; unfold convC; rw [hs, hd]; simp only [hu]
    · rename_i hu
      split
      · rename_i e hv
        split
        · rename_i ei he
          split
          · rename_i hw
            simp only [CK.run]; unfold convC; rw [hs, hd]; simp only [hu, hv, he, hw]
          · rfl
        · rfl
      · rfl
    · rename_i e hu
      split
      · rename_i ei he
        split
        · rename_i hw
          simp only [CK.run]; unfold convC; rw [hs, hd]; simp only [hu, he, hw]
        · rfl
      · rfl
    · rfl
  · rfl
theorem keyFits_kk {d : TypeDesc} {kk : KK} (h : kindKK d = some kk) : keyFits d = true ∧ keyC d = kk.eq := by
  cases d <;> simp only [kindKK] at h <;> first | (cases h; done) | (cases h; exact ⟨rfl, rfl⟩)
theorem resCall_run {c : Call} {call : CallF} {T' : Regs} {h h' : Heap} {v : V} (he : (resCall P c).run P call (ofT T') h = .val v h') : (callC P c).run call T' h = .val v h' := by
  unfold resCall at he
  unfold callC
  split at he
  · rename_i f hc
    rw [hc]
    simp only [G.run] at he
    simpa only [evC, evConst, V.onFunc, evsC_ofT, List.append_nil] using he
  · rename_i x hx hc
    rw [hc]
    simp only [G.run] at he
    simpa only [evC_ofT, evsC_ofT] using he
  · cases he
  · rename_i b hc
    rw [hc]
    simp only [evsC_ofT]
    cases b <;> simp only at he <;> try (cases he; done)
    case len =>
      split at he
      · rename_i t x ht hx
        cases hti : tiOf P t with
        | none => rw [hti] at he; cases he
        | some ti =>
          rw [hti] at he
          simp only at he
          simp only [builtC, ht, hti, hx, rxs, RX.evs]
          cases hu : ti.und <;> rw [hu] at he <;> first | (cases he; done) | (simpa only [isMapD, cond_true, cond_false, G.run, LK.run, lenOne, OR.of] using he)
      · cases he
    case append =>
      split at he
      · rename_i t u s x ht hx
        split at he
        · rename_i ti ui hti hui
          simp only [builtC, ht, hx, rxs, RX.evs, appC, hti, hui]
          split at he
          · cases he
          · rename_i hne
            split at he
            · rename_i e hte
              cases hei : tiOf P e with
              | none => rw [hei] at he; cases he
              | some ei =>
                rw [hei] at he
                simp only at he
                cases hz : ei.zero with
                | none => rw [hz] at he; cases he
                | some z =>
                  rw [hz] at he
                  simp only at he
                  cases hb : (Nat.ble 1 ei.size && Nat.ble ei.bytes 4096 && Nat.beq z.cells.length ei.size) with
                  | false => rw [hb] at he; cases he
                  | true =>
                    rw [hb] at he
                    simp only [cond_true, G.run] at he
                    cases huu : ui.und <;> first
                      | (exact absurd huu (hne _))
                      | (simp only [hte, hei, hz, hb, cond_true]; exact he)
            · cases he
        · cases he
      · cases he
    case copy =>
      split at he
      · rename_i t ts d s ht hx
        cases hti : tiOf P t with
        | none => rw [hti] at he; cases he
        | some ti =>
          rw [hti] at he
          simp only at he
          split at he
          · rename_i e hte
            cases hei : tiOf P e with
            | none => rw [hei] at he; cases he
            | some ei =>
              rw [hei] at he
              simp only [G.run] at he
              simp only [builtC, ht, hx, rxs, RX.evs, copyC, hti, hte, hei]
              exact he
          · cases he
      · cases he
    case min => exact he
    case max => exact he
    case clear =>
      split at he
      · rename_i t x ht hx
        cases hc : clrZ P t with
        | none => rw [hc] at he; cases he
        | some z =>
          rw [hc] at he
          simp only [G.run] at he
          simp only [builtC, ht, hx, rxs, RX.evs, clrZ_eq, hc]
          exact he
      · cases he
theorem resG_run {o : Oper} {call : CallF} {T' : Regs} {h h' : Heap} {v : V} (he : (resG P o.op).run P call (ofT T') h = .val v h') : (cop P o).run call T' h = .val v h' := by
  obtain ⟨dst, op, type, pos, after, guard⟩ := o
  cases op <;> simp only [resG] at he <;> try (cases he; done)
  all_goals simp only [cop]
  case move x => simpa only [evC_ofT, G.run] using he
  case assign x => simpa only [evC_ofT, G.run] using he
  case pick c a b =>
    simp only [evC_ofT, G.run] at he ⊢
    generalize (rx c).ev (ofT T') = q at he ⊢
    cases q <;> exact he
  case alloc t =>
    cases ht : tiOf P t with
    | none => rw [ht] at he; cases he
    | some ti =>
      rw [ht] at he
      simp only at he ⊢
      cases hz : ti.zero with
      | none => rw [hz] at he; cases he
      | some z => rw [hz] at he; exact he
  case box t x => simpa only [evC_ofT, G.run] using he
  case build t ps =>
    unfold resBuild at he
    unfold buildC
    cases ht : tiOf P t with
    | none => rw [ht] at he; cases he
    | some ti =>
      rw [ht] at he
      simp only at he ⊢
      cases hz : ti.zero with
      | none => rw [hz] at he; cases he
      | some z =>
        rw [hz] at he
        simp only at he ⊢
        cases hu : ti.und <;> rw [hu] at he <;> simp only at he ⊢ <;> try (cases he; done)
        · rename_i n e
          cases hei : tiOf P e with
          | none => rw [hei] at he; cases he
          | some ei =>
            rw [hei] at he
            simp only at he ⊢
            cases hp : placesR (fun i => some (i * ei.size, ei.size)) ps.toList with
            | none => rw [hp] at he; cases he
            | some l =>
              rw [hp] at he
              simp only [G.run] at he
              rw [fillR_ofT T' hp]
              cases hf : fillR z.cells (evPs (ofT T') l) with
              | none => rw [hf] at he; cases he
              | some cs => rw [hf] at he; exact he
        · rename_i fs
          cases hk : fieldsKnown P fs.toList with
          | false => rw [hk] at he; cases he
          | true =>
            rw [hk] at he
            simp only [cond_true] at he ⊢
            cases hp : placesR (fieldPlaceD P fs) ps.toList with
            | none => rw [hp] at he; cases he
            | some l =>
              rw [hp] at he
              simp only [G.run] at he
              rw [fillR_ofT T' hp]
              cases hf : fillR z.cells (evPs (ofT T') l) with
              | none => rw [hf] at he; cases he
              | some cs => rw [hf] at he; exact he
  case buildSlice t n ps =>
    unfold resSliceLit at he
    unfold buildSliceC
    cases ht : tiOf P t with
    | none => rw [ht] at he; cases he
    | some ti =>
      rw [ht] at he
      simp only at he ⊢
      cases hu : ti.und <;> rw [hu] at he <;> simp only at he ⊢ <;> try (cases he; done)
      rename_i e
      cases hei : tiOf P e with
      | none => rw [hei] at he; cases he
      | some ei =>
        rw [hei] at he
        simp only at he ⊢
        cases hz : ei.zero with
        | none => rw [hz] at he; cases he
        | some z =>
          rw [hz] at he
          simp only at he ⊢
          cases hb : (Nat.ble (n * ei.size) 1000000 && Nat.beq z.cells.length ei.size) with
          | false => rw [hb] at he; cases he
          | true =>
            rw [hb] at he
            simp only [cond_true] at he ⊢
            cases hp : placesR (fun i => some (i * ei.size, ei.size)) ps.toList with
            | none => rw [hp] at he; cases he
            | some l =>
              rw [hp] at he
              simp only [G.run] at he
              rw [fillR_ofT T' hp]
              exact he
  case load t x =>
    unfold loadC
    cases ht : tiOf P t with
    | none => rw [ht] at he; cases he
    | some ti =>
      rw [ht] at he
      simp only at he ⊢
      cases ha : ti.agg with
      | true => rw [ha] at he; simpa only [cond_true, evC_ofT, G.run] using he
      | false =>
        rw [ha] at he
        simp only [cond_false] at he ⊢
        cases hs : Nat.beq ti.size 1 with
        | true => rw [hs] at he; simpa only [cond_true, evC_ofT, G.run] using he
        | false => rw [hs] at he; cases he
  case store t x y =>
    unfold storeC
    cases ht : tiOf P t with
    | none => rw [ht] at he; cases he
    | some ti => rw [ht] at he; simpa only [evC_ofT, G.run] using he
  case nilCheck x => simpa only [evC_ofT, G.run] using he
  case binOp op t x y t2 => simpa only [evC_ofT, G.run, resLit_run] using he
  case unOp op t x => simpa only [evC_ofT, G.run] using he
  case convert s d x => simpa only [evC_ofT, G.run, resConv_run] using he
  case makeFunc fn first caps =>
    cases fn <;> simp only at he <;> try (cases he; done)
    simp only
    cases hf : first.isEmpty with
    | false => rw [hf] at he; cases he
    | true => rw [hf] at he; simpa only [cond_true, evsC_ofT, G.run] using he
  case makeInterface t x =>
    cases ht : tiOf P t with
    | none => rw [ht] at he; cases he
    | some ti =>
      rw [ht] at he
      simp only at he ⊢
      cases hb : Nat.beq (nilKindD ti.und) 5 with
      | true => rw [hb] at he; cases he
      | false => rw [hb] at he; simpa only [cond_false, evC_ofT, G.run] using he
  case makeSlice t l c =>
    unfold makeSliceC
    cases ht : tiOf P t with
    | none => rw [ht] at he; cases he
    | some ti =>
      rw [ht] at he
      simp only at he ⊢
      cases hu : ti.und <;> rw [hu] at he <;> simp only at he ⊢ <;> try (cases he; done)
      rename_i e
      cases hei : tiOf P e with
      | none => rw [hei] at he; cases he
      | some ei =>
        rw [hei] at he
        simp only at he ⊢
        cases hz : ei.zero with
        | none => rw [hz] at he; cases he
        | some z =>
          rw [hz] at he
          simp only at he ⊢
          cases hb : Nat.ble ei.bytes 4096 with
          | false => rw [hb] at he; cases he
          | true => rw [hb] at he; simpa only [cond_true, evC_ofT, G.run] using he
  case slice t x lo hi m3 =>
    unfold sliceC
    cases ht : tiOf P t with
    | none => rw [ht] at he; cases he
    | some ti =>
      rw [ht] at he
      simp only at he ⊢
      cases hu : ti.und <;> rw [hu] at he <;> simp only at he ⊢ <;> try (cases he; done)
      · simpa only [evC_ofT, optC_ofT, G.run] using he
      · rename_i e
        cases hei : tiOf P e with
        | none => rw [hei] at he; cases he
        | some ei =>
          rw [hei] at he
          simp only [evC_ofT, optC_ofT, G.run] at he ⊢
          generalize (rx x).ev (ofT T') = q at he ⊢
          cases q <;> exact he
  case fieldAddr t x i =>
    unfold fieldAddrC
    cases hf : fieldD P t i with
    | none => rw [hf] at he; cases he
    | some f =>
      rw [hf] at he
      simp only at he ⊢
      cases ht : tiOf P f.type with
      | none => rw [ht] at he; cases he
      | some fi =>
        rw [ht] at he
        simp only at he ⊢
        cases hb : Nat.beq fi.size 0 with
        | true => rw [hb] at he; cases he
        | false => rw [hb] at he; simpa only [cond_false, evC_ofT, G.run] using he
  case field t x i =>
    unfold fieldC
    cases hf : fieldD P t i with
    | none => rw [hf] at he; cases he
    | some f =>
      rw [hf] at he
      simp only [partC] at he ⊢
      cases ht : tiOf P f.type with
      | none => rw [ht] at he; cases he
      | some fi =>
        rw [ht] at he
        simp only at he ⊢
        cases hb : fi.agg with
        | true =>
          rw [hb] at he
          simp only [cond_true, evC_ofT, G.run] at he ⊢
          generalize (rx x).ev (ofT T') = q at he ⊢
          cases q <;> exact he
        | false =>
          rw [hb] at he
          simp only [cond_false, evC_ofT, G.run] at he ⊢
          generalize (rx x).ev (ofT T') = q at he ⊢
          cases q <;> exact he
  case indexAddr t x i =>
    unfold indexAddrC
    cases ht : tiOf P t with
    | none => rw [ht] at he; cases he
    | some ti =>
      rw [ht] at he
      simp only at he ⊢
      cases hu : ti.und <;> rw [hu] at he <;> simp only at he ⊢ <;> try (cases he; done)
      all_goals
        rename_i e
        cases hei : tiOf P e with
        | none => rw [hei] at he; cases he
        | some ei => rw [hei] at he; simpa only [evC_ofT, G.run] using he
  case index t x i =>
    cases ht : tiOf P t with
    | none => rw [ht] at he; cases he
    | some ti =>
      rw [ht] at he
      simp only at he
      cases hu : ti.und <;> rw [hu] at he <;> simp only [G.run] at he
      case string =>
        unfold indexC
        rw [ht]
        simp only [hu]
        simpa only [evC_ofT] using he
      all_goals simpa only [evC_ofT] using he
  case range t x =>
    unfold rangeC
    cases ht : tiOf P t with
    | none => rw [ht] at he; cases he
    | some ti =>
      rw [ht] at he
      simp only at he ⊢
      cases hu : ti.und <;> rw [hu] at he <;> simp only at he ⊢ <;> try (cases he; done)
      simp only [evC_ofT, G.run] at he ⊢
      generalize (rx x).ev (ofT T') = q at he ⊢
      cases q <;> exact he
  case next it b =>
    cases b <;> simp only at he <;> try (cases he; done)
    simpa only [evC_ofT, G.run] using he
  case lookup t x k ok =>
    unfold lookupC
    cases ht : tiOf P t with
    | none => rw [ht] at he; cases he
    | some ti =>
      rw [ht] at he
      simp only at he ⊢
      cases hu : ti.und <;> rw [hu] at he <;> simp only at he ⊢ <;> try (cases he; done)
      rename_i k' e
      cases hk : tiOf P k' with
      | none => rw [hk] at he; cases he
      | some ki =>
        rw [hk] at he
        simp only at he ⊢
        cases hei : tiOf P e with
        | none => rw [hei] at he; cases he
        | some ei =>
          rw [hei] at he
          simp only at he ⊢
          cases hz : ei.zero with
          | none => rw [hz] at he; cases he
          | some z =>
            rw [hz] at he
            simp only at he ⊢
            cases hkk : kindKK ki.und with
            | none => rw [hkk] at he; cases he
            | some kk =>
              rw [hkk] at he
              obtain ⟨q1, q2⟩ := keyFits_kk hkk
              simp only [q1, q2, cond_true]
              simpa only [evC_ofT, G.run] using he
  case mapUpdate t m k x =>
    unfold updC
    cases ht : tiOf P t with
    | none => rw [ht] at he; cases he
    | some ti =>
      rw [ht] at he
      simp only at he ⊢
      cases hu : ti.und <;> rw [hu] at he <;> simp only at he ⊢ <;> try (cases he; done)
      rename_i k' e
      cases hk : tiOf P k' with
      | none => rw [hk] at he; cases he
      | some ki =>
        rw [hk] at he
        simp only at he ⊢
        cases hkk : kindKK ki.und with
        | none => rw [hkk] at he; cases he
        | some kk =>
          rw [hkk] at he
          obtain ⟨q1, q2⟩ := keyFits_kk hkk
          simp only [q1, q2, cond_true]
          simpa only [evC_ofT, G.run] using he
  case insert t m k x =>
    unfold updC
    cases ht : tiOf P t with
    | none => rw [ht] at he; cases he
    | some ti =>
      rw [ht] at he
      simp only at he ⊢
      cases hu : ti.und <;> rw [hu] at he <;> simp only at he ⊢ <;> try (cases he; done)
      rename_i k' e
      cases hk : tiOf P k' with
      | none => rw [hk] at he; cases he
      | some ki =>
        rw [hk] at he
        simp only at he ⊢
        cases hkk : kindKK ki.und with
        | none => rw [hkk] at he; cases he
        | some kk =>
          rw [hkk] at he
          obtain ⟨q1, q2⟩ := keyFits_kk hkk
          simp only [q1, q2, cond_true]
          simpa only [evC_ofT, G.run] using he
  case makeMap t x =>
    unfold makeMapC
    cases ht : tiOf P t with
    | none => rw [ht] at he; cases he
    | some ti =>
      rw [ht] at he
      simp only at he ⊢
      cases hb : Nat.beq (nilKindD ti.und) 3 with
      | false => rw [hb] at he; cases he
      | true => rw [hb] at he; simpa only [cond_true, optC_ofT, G.run] using he
  case extract x i =>
    simp only [evC_ofT, G.run] at he ⊢
    generalize (rx x).ev (ofT T') = q at he ⊢
    cases q <;> exact he
  case call c => exact resCall_run he
end
end Go.Proofs.YtjbiefneffiogaaGreat.Am

namespace Go.Proofs.YtjbiefneffiogaaGreat.Am
variable [Lay]
open Go Go.RowKit
def CallsV (P : Program) (f : FuncId) (args : List V) (h : Heap) (v : V) (h' : Heap) : Prop :=
  ((∃ fn, P.funcs[f]? = some fn ∧ fn.body.isSome = true) ∧ ∀ (w0 : Fr) E w xs, RelL E args xs → Sim w0 E h w →
    Calls P f xs.toArray w fun e w' => ∃ E' x, e = .returned x ∧ E.le E' ∧ Rel E' v x ∧ Sim w0 E' h' w') ∨
  ∀ (w0 : Fr) E w xs, RelL E args xs → Sim w0 E h w → ∃ E' x w', (callFunc f xs.toArray).run P w = .ok (.value x) w' ∧ E.le E' ∧ Rel E' v x ∧ Sim w0 E' h' w'
theorem CallsV.calls {P : Program} (hN : NamesOk P) {f : FuncId} {args : List V} {h h' : Heap} {v : V} (H : CallsV P f args h v h') (hb : ∃ fn, P.funcs[f]? = some fn ∧ fn.body.isSome = true) (w0 : Fr) (E : Env) (w : World) (xs : List Value) (hx : RelL E args xs) (s : Sim w0 E h w) :
    Calls P f xs.toArray w fun e w' => ∃ E' x, e = .returned x ∧ E.le E' ∧ Rel E' v x ∧ Sim w0 E' h' w' := by
  rcases H with ⟨_, H⟩ | H
  · exact H w0 E w xs hx s
  · obtain ⟨E', x, w', hr, _⟩ := H w0 E w xs hx s
    obtain ⟨fn, h1, h2⟩ := hb
    rw [run_callFunc hN h1 h2] at hr
    cases hr
def Ctr (P : Program) (f : FuncId) (args : List V) (h : Heap) (K : V → Heap → Prop) : Prop := ∃ v h', CallsV P f args h v h' ∧ K v h'
theorem Ctr.mono {P : Program} {f : FuncId} {args : List V} {h : Heap} {K K' : V → Heap → Prop} (c : Ctr P f args h K) (hk : ∀ v h', K v h' → K' v h') : Ctr P f args h K' := by
  obtain ⟨v, h', q1, q2⟩ := c
  exact ⟨v, h', q1, hk v h' q2⟩
def nocall : CallF := fun _ _ _ => .fail
theorem nocall_ok (P : Program) : CallOk P nocall ∧ CallBody P nocall :=
  ⟨fun _ f args h v h' he => by simp [nocall] at he, fun f args h v h' he => by simp [nocall] at he⟩
open Classical in
noncomputable def orc (f : FuncId) (args : List V) (h : Heap) (v : V) (h' : Heap) : CallF :=
  fun f1 a1 h1 => if f1 = f ∧ a1 = args ∧ h1 = h then .val v h' else .fail
theorem orc_ok {P : Program} {f : FuncId} {args : List V} {h h' : Heap} {v : V} (H : CallsV P f args h v h') : CallOk P (orc f args h v h') ∧ CallBody P (orc f args h v h') := by
  refine ⟨fun w0 f1 a1 h1 v1 h1' he => ?_, fun f1 a1 h1 v1 h1' he => ?_⟩
  · unfold orc at he
    split at he
    · rename_i hc
      obtain ⟨rfl, rfl, rfl⟩ := hc
      simp only [OR.val.injEq] at he
      obtain ⟨rfl, rfl⟩ := he
      intro E w xs hx s
      rcases H with H | H
      · exact .inl ⟨H.1, H.2 w0 E w xs hx s⟩
      · exact .inr (H w0 E w xs hx s)
    · cases he
  · trivial
theorem orc_run {f : FuncId} {args : List V} {h h' : Heap} {v : V} : orc f args h v h' f args h = .val v h' := by
  unfold orc
  rw [if_pos ⟨rfl, rfl, rfl⟩]
def RF.set (r : RF) (d : Option Nat) (v : V) : RF :=
  match d with
  | none => r
  | some d => fun t => if t = d then v else r t
def RF.trim (r : RF) : List Nat → RF
  | [], _ => .bad
  | u :: us, t => if t = u then r t else RF.trim r us t
def RF.ofL : List V → RF
  | [], _ => .bad
  | v :: vs, t => if t = 0 then v else RF.ofL vs (t - 1)
noncomputable def trieF (r : RF) : List Nat → Regs
  | [] => .e
  | t :: ts => T.put .bad (r t) (pa t) (trieF r ts)
theorem trieF_of (r : RF) : ∀ ts : List Nat, ofT (trieF r ts) = RF.trim r ts
  | [] => by funext t; simp [ofT, trieF, RF.trim]
  | u :: ts => by
    funext t
    have ih := congrFun (trieF_of r ts) t
    simp only [ofT] at ih
    simp only [ofT, trieF, RF.trim, T.get_put]
    by_cases h : t = u
    · subst h; simp
    · rw [if_neg (fun e => h (pa_inj e).symm), if_neg h]
      exact ih
theorem trimR_of (T' : Regs) : ∀ ts : List Nat, ofT (trimR T' ts) = RF.trim (ofT T') ts
  | [] => by funext t; simp [ofT, trimR, RF.trim]
  | u :: ts => by
    funext t
    have ih := congrFun (trimR_of T' ts) t
    simp only [ofT] at ih
    simp only [ofT, trimR, RF.trim, T.get_put]
    by_cases h : t = u
    · subst h; simp
    · rw [if_neg (fun e => h (pa_inj e).symm), if_neg h]
      exact ih
theorem trim_mem {r : RF} : ∀ {ts : List Nat} {t : Nat}, t ∈ ts → RF.trim r ts t = r t
  | [], t, h => by simp at h
  | u :: ts, t, h => by
    simp only [RF.trim]
    by_cases hu : t = u
    · rw [if_pos hu]
    · rw [if_neg hu]
      simp only [List.mem_cons] at h
      exact trim_mem (h.resolve_left hu)
theorem trim_not {r : RF} : ∀ {ts : List Nat} {t : Nat}, t ∉ ts → RF.trim r ts t = .bad
  | [], t, _ => rfl
  | u :: ts, t, h => by
    simp only [List.mem_cons, not_or] at h
    simp only [RF.trim]
    rw [if_neg h.1]
    exact trim_not h.2
theorem put_of (d : Option Nat) (T' : Regs) (v : V) : ofT ((putC d).run T' v) = (ofT T').set d v := by
  cases d with
  | none => rfl
  | some d =>
    funext t
    simp only [ofT, putC, RF.set, T.get_put]
    by_cases h : t = d
    · subst h; simp
    · rw [if_neg (fun e => h (pa_inj e).symm), if_neg h]
def Out (nt : Nat) (r : RF) : Prop := ∀ t, nt ≤ t → r t = .bad
theorem exists_trie {nt : Nat} {r : RF} (ho : Out nt r) : ∃ T', ofT T' = r := by
  refine ⟨trieF r (List.range nt), ?_⟩
  rw [trieF_of]
  funext t
  by_cases h : t < nt
  · exact trim_mem (List.mem_range.2 h)
  · rw [trim_not (by simpa using h), ho t (by omega)]
theorem Out.set {nt : Nat} {r : RF} (ho : Out nt r) {d : Option Nat} (hd : dstFine nt d = true) (v : V) : Out nt (r.set d v) := by
  intro t ht
  cases d with
  | none => exact ho t ht
  | some d =>
    simp only [dstFine, Bool.and_eq_true, Nat.blt_eq] at hd
    simp only [RF.set]
    rw [if_neg (by omega)]
    exact ho t ht
structure RegF (E : Env) (nt : Nat) (r : RF) (a : Act) : Prop where
  size : a.tmps.size = nt
  defers : a.defers = []
  reg : ∀ t, Rel E (r t) (a.tmps.getD t undef)
theorem RegF.mono {E E' : Env} (h : E.le E') {nt : Nat} {r : RF} {a : Act} (k : RegF E nt r a) : RegF E' nt r a :=
  ⟨k.size, k.defers, fun t => Rel.mono h _ _ (k.reg t)⟩
theorem RegF.put {E E' : Env} (h : E.le E') {nt : Nat} {r : RF} {a : Act} (k : RegF E nt r a) {d : Option Nat} (hd : dstFine nt d = true) {v : V} {x : Value} (hx : Rel E' v x) : RegF E' nt (r.set d v) (a.put d x) := by
  cases d with
  | none => exact k.mono h
  | some d =>
    simp only [dstFine, Bool.and_eq_true, Nat.blt_eq] at hd
    refine ⟨by simp [Act.put, k.size], by simp [Act.put, k.defers], fun t => ?_⟩
    simp only [RF.set, Act.put]
    rw [Array.getD_eq_getD_getElem?, Array.getElem?_setIfInBounds]
    by_cases ht : t = d
    · subst ht
      rw [if_pos rfl, if_pos rfl, if_pos (by rw [k.size]; exact hd.1)]
      exact hx
    · rw [if_neg ht, if_neg (fun e => ht e.symm), ← Array.getD_eq_getD_getElem?]
      exact Rel.mono h _ _ (k.reg t)
noncomputable def G.wp (P : Program) (g : G) (r : RF) (h : Heap) (K : V → Heap → Prop) : Prop :=
  match g with
  | .call f args => Ctr P f (RX.evs r args) h K
  | .callv f args => ∃ g cs, f.ev r = .func g cs ∧ Ctr P g (RX.evs r args ++ cs) h K
  | g => ∃ v h', g.run P nocall r h = .val v h' ∧ K v h'
theorem G.wp_run {P : Program} {g : G} {r : RF} {h : Heap} {K : V → Heap → Prop} (H : g.wp P r h K) : ∃ call v h', (CallOk P call ∧ CallBody P call) ∧ g.run P call r h = .val v h' ∧ K v h' := by
  cases g
  case call f args =>
    obtain ⟨v, h', q1, q2⟩ := H
    exact ⟨_, v, h', orc_ok q1, orc_run, q2⟩
  case callv f args =>
    obtain ⟨g, cs, hf, v, h', q1, q2⟩ := H
    refine ⟨_, v, h', orc_ok q1, ?_, q2⟩
    simp only [G.run, hf, V.onFunc]
    exact orc_run
  all_goals
    obtain ⟨v, h', q1, q2⟩ := H
    exact ⟨nocall, v, h', nocall_ok P, q1, q2⟩
structure GO where
  dst : Option Nat
  g : G
  gd : Option (Nat × Bool)
  rs : List Nat
def GO.bad : GO := ⟨none, .bad, none, []⟩
def gate (v : V) (want : Bool) (A B : Prop) : Prop :=
  match v with
  | .bool b => (b = want → A) ∧ (b = !want → B)
  | .tuple _ => B
  | _ => False
noncomputable def GO.wp (P : Program) (o : GO) (r : RF) (h : Heap) (K : RF → V → Heap → Prop) : Prop :=
  match o.gd with
  | none => o.g.wp P (r.trim o.rs) h fun v h' => K (r.set o.dst v) v h'
  | some (d, want) => gate (r.trim o.rs d) want (o.g.wp P (r.trim o.rs) h fun v h' => K (r.set o.dst v) v h') (K (r.set o.dst (.tuple [])) (.tuple []) h)
def resO (P : Program) (nt : Nat) (all : Array Oper) (o : Oper) : GO :=
  bif dstFine nt o.dst && smallT (readsOf all o) then
    match o.guard with
    | none => ⟨o.dst, resG P o.op, none, readsOf all o⟩
    | some (j, want) => match all[j]? with
      | some g => match g.dst with
        | some d => bif Nat.blt d nt && Nat.ble d top then ⟨o.dst, resG P o.op, some (d, want), readsOf all o⟩ else GO.bad
        | none => GO.bad
      | none => GO.bad
  else GO.bad
def resOs (P : Program) (nt : Nat) (all : Array Oper) : List Oper → List GO
  | [] => []
  | o :: os => resO P nt all o :: resOs P nt all os
theorem resOs_map (P : Program) (nt : Nat) (all : Array Oper) : ∀ l : List Oper, resOs P nt all l = l.map (resO P nt all)
  | [] => rfl
  | o :: os => by simp [resOs, resOs_map P nt all os]
theorem GO.bad_wp {P : Program} {r : RF} {h : Heap} {K : RF → V → Heap → Prop} : ¬ GO.bad.wp P r h K := by
  rintro ⟨v, h', q, _⟩
  cases q
theorem GO.wp_run {P : Program} {nt : Nat} {all : Array Oper} {o : Oper} {r : RF} {h : Heap} {K : RF → V → Heap → Prop} (H : (resO P nt all o).wp P r h K) :
    ∃ call v h', (CallOk P call ∧ CallBody P call) ∧ dstFine nt o.dst = true ∧ K (r.set o.dst v) v h' ∧ ∀ T', ofT T' = r → (dopC P nt all o).run call T' h = .val v h' := by
  unfold resO at H
  cases hc : (dstFine nt o.dst && smallT (readsOf all o)) with
  | false => rw [hc] at H; exact absurd H GO.bad_wp
  | true =>
    have hd : dstFine nt o.dst = true := by simp only [Bool.and_eq_true] at hc; exact hc.1
    rw [hc] at H
    simp only [cond_true] at H
    cases hg : o.guard with
    | none =>
      rw [hg] at H
      obtain ⟨call, v, h', q1, q2, q3⟩ := G.wp_run H
      refine ⟨call, v, h', q1, hd, q3, fun T' hT => ?_⟩
      unfold dopC
      rw [hc]
      simp only [cond_true, hg, dopRun]
      refine resG_run ?_
      rw [trimR_of, hT]
      exact q2
    | some jw =>
      obtain ⟨j, want⟩ := jw
      rw [hg] at H
      simp only at H
      cases hj : all[j]? with
      | none => rw [hj] at H; exact absurd H GO.bad_wp
      | some g =>
        rw [hj] at H
        simp only at H
        cases hgd : g.dst with
        | none => rw [hgd] at H; exact absurd H GO.bad_wp
        | some d =>
          rw [hgd] at H
          simp only at H
          cases hb : (Nat.blt d nt && Nat.ble d top) with
          | false => rw [hb] at H; exact absurd H GO.bad_wp
          | true =>
            rw [hb] at H
            simp only [cond_true, GO.wp] at H
            have key : dopC P nt all o = ⟨dopRun (some (evTmp (pa d), want)) (cop P o) (readsOf all o)⟩ := by
              unfold dopC
              rw [hc]
              simp only [cond_true, hg, hj, hgd, hb]
            have hev : ∀ T', ofT T' = r → (evTmp (pa d)).run (trimR T' (readsOf all o)) = r.trim (readsOf all o) d := by
              intro T' hT
              rw [← hT, ← trimR_of]
              rfl
            cases hv : r.trim (readsOf all o) d <;> rw [hv] at H <;> simp only [gate] at H
            case bool b =>
              by_cases hbw : b = want
              · obtain ⟨call, v, h', q1, q2, q3⟩ := G.wp_run (H.1 hbw)
                refine ⟨call, v, h', q1, hd, q3, fun T' hT => ?_⟩
                rw [key]
                simp only [dopRun, hev T' hT, hv]
                rw [show (bif want then b else !b) = true from by subst hbw; cases b <;> rfl]
                simp only [cond_true]
                refine resG_run ?_
                rw [trimR_of, hT]
                exact q2
              · have hbn : b = !want := by cases b <;> cases want <;> simp_all
                refine ⟨nocall, .tuple [], h, nocall_ok P, hd, H.2 hbn, fun T' hT => ?_⟩
                rw [key]
                simp only [dopRun, hev T' hT, hv]
                rw [show (bif want then b else !b) = false from by subst hbn; cases want <;> rfl]
                rfl
            case tuple vs =>
              refine ⟨nocall, .tuple [], h, nocall_ok P, hd, H, fun T' hT => ?_⟩
              rw [key]
              simp only [dopRun, hev T' hT, hv]
noncomputable def wpOs (P : Program) : List GO → RF → Heap → (RF → Heap → Prop) → Prop
  | [], r, h, K => K r h
  | o :: os, r, h, K => o.wp P r h fun r' _ h' => wpOs P os r' h' K
structure EntF where
  r : RF
  h : Heap
  v : V
noncomputable def wpD (P : Program) : List GO → RF → Heap → (List EntF → RF → Heap → Prop) → Prop
  | [], r, h, K => K [] r h
  | o :: os, r, h, K => o.wp P r h fun r' v h' => wpD P os r' h' fun es rf hf => K (⟨r, h, v⟩ :: es) rf hf
def heapF (es : List EntF) (hf : Heap) (i : Nat) : Heap :=
  match es[i]? with
  | some e => e.h
  | none => hf
noncomputable def askP (P : Program) (o : Option GO) (e : Option EntF) (es : List EntF) (hf : Heap) : List Nat → Prop
  | [] => True
  | s :: ss => (match o, e with
    | some o, some e => o.wp P e.r (heapF es hf s) fun _ v' _ => v' = e.v
    | _, _ => False) ∧ askP P o e es hf ss
noncomputable def asksP (P : Program) (ops : List GO) (es : List EntF) (hf : Heap) : List (Nat × List Nat) → Prop
  | [] => True
  | (p, ss) :: rest => askP P ops[p]? es[p]? es hf ss ∧ asksP P ops es hf rest
inductive RC where
  | bad
  | skip
  | reg (ops : List GO)
  | draw (ops : List GO) (asks : List (Nat × List Nat))
  | seq (a b : RC)
  | cond (c : RX) (a b : RC)
  | block (id : Nat) (b : RC)
  | loop (b : RC)
  | exit (id : Nat)
  | ret
def asksL (P : Program) (ops : List Oper) (masks poss starts : List Nat) : Nat → List Oper → List (Nat × List Nat)
  | _, [] => []
  | i, o :: os => bif looks o.op && !isEff P o.op then
      (posOf poss i, starts.filter (mayStand P masks ops poss i ((masks[i]?).getD 0))) :: asksL P ops masks poss starts (i + 1) os
    else asksL P ops masks poss starts (i + 1) os
def resDraw (P : Program) (nt : Nat) (ops : Array Oper) (order poss : List Nat) : RC :=
  bif permOk ops.size order poss && drawFine P ops poss then
    .draw (resOs P nt ops (opsAt ops order)) (bif anyEff P ops.toList then asksL P ops.toList (masksFrom [] ops.toList) poss (levelStarts P poss 0 ops.toList) 0 ops.toList else [])
  else .bad
def resK (P : Program) (nt : Nat) : Code → RC
  | .skip => .skip
  | .label _ => .skip
  | .region _ ops draw => bif draw then resDraw P nt ops (orderOf P ops) (possFrom (orderOf P ops) 0 ops.toList) else .reg (resOs P nt ops ops.toList)
  | .seq a b => .seq (resK P nt a) (resK P nt b)
  | .cond c a b => .cond (rx c) (resK P nt a) (resK P nt b)
  | .block id b => .block id (resK P nt b)
  | .loop b => .loop (resK P nt b)
  | .exit id => .exit id
  | .ret => .ret
  | .scope b => resK P nt b
  | _ => .bad
def Ex.andThen : Ex → Prop → Prop → Prop
  | .normal, A, _ => A
  | _, _, B => B
def Ex.leave (id : Nat) : Ex → Ex
  | .exit i => if i = id then .normal else .exit i
  | e => e
noncomputable def wpC (P : Program) : RC → RF → Heap → (Ex → RF → Heap → Prop) → Prop
  | .bad, _, _, _ => False
  | .skip, r, h, Q => Q .normal r h
  | .reg ops, r, h, Q => wpOs P ops r h (Q .normal)
  | .draw ops asks, r, h, Q => wpD P ops r h fun es rf hf => asksP P ops es hf asks ∧ Q .normal rf hf
  | .seq a b, r, h, Q => wpC P a r h fun e r' h' => e.andThen (wpC P b r' h' Q) (Q e r' h')
  | .cond c a b, r, h, Q => match c.ev r with
    | .bool t => (t = true → wpC P a r h Q) ∧ (t = false → wpC P b r h Q)
    | _ => False
  | .block id b, r, h, Q => wpC P b r h fun e r' h' => Q (e.leave id) r' h'
  | .loop b, r, h, Q => ∃ (I : RF → Heap → Prop) (μ : RF → Heap → Nat), I r h ∧ ∀ r h, I r h → wpC P b r h fun e r' h' => e.andThen (I r' h' ∧ μ r' h' < μ r h) (Q e r' h')
  | .exit id, r, h, Q => Q (.exit id) r h
  | .ret, r, h, Q => Q .ret r h
def CodeV (P : Program) (nt : Nat) (c : Code) (r : RF) (h : Heap) (e : Ex) (r' : RF) (h' : Heap) : Prop :=
  ∀ (w0 : Fr) E a w, RegF E nt r a → Sim w0 E h w → ∀ Q : Exit → Act → World → Prop,
    (∀ E' a' w', E.le E' → RegF E' nt r' a' → Sim w0 E' h' w' → Q (toExit e) a' w') → wpX P c Q a w
section
variable {P : Program} {nt : Nat}
theorem wpOs_sound (hN : NamesOk P) {all : Array Oper} : ∀ (l : List Oper) (i : Nat), (∀ j, l[j]? = all[i + j]?) → ∀ (r : RF) (h : Heap) (K : RF → Heap → Prop), Out nt r → wpOs P (resOs P nt all l) r h K →
    ∃ r' h', K r' h' ∧ Out nt r' ∧ ∀ (w0 : Fr) E a w, RegF E nt r a → Sim w0 E h w → ∀ Q : Exit → Act → World → Prop,
      (∀ E' a' w', E.le E' → RegF E' nt r' a' → Sim w0 E' h' w' → Q .normal a' w') → wpOps P all Q (List.range' i l.length) a w
  | [], i, _, r, h, K, ho, H => by
    refine ⟨r, h, H, ho, fun w0 E a w k s Q hQ => ?_⟩
    simp only [List.length_nil, List.range'_zero, wpOps]
    exact hQ E a w (Env.le.refl E) k s
  | o :: os, i, hl, r, h, K, ho, H => by
    have hi : all[i]? = some o := by have := hl 0; simpa using this.symm
    simp only [resOs, wpOs] at H
    obtain ⟨call, v, h1, hc, hd, H1, hrun⟩ := GO.wp_run H
    obtain ⟨r2, h2, q1, q2, q3⟩ := wpOs_sound hN os (i + 1) (fun j => by
      have := hl (j + 1)
      simp only [List.getElem?_cons_succ] at this
      rw [this]
      congr 1
      omega) _ h1 K (ho.set hd v) H1
    refine ⟨r2, h2, q1, q2, fun w0 E a w k s Q hQ => ?_⟩
    obtain ⟨T', hT⟩ := exists_trie ho
    rw [List.length_cons, List.range'_succ, wpOps_cons]
    refine dop_sound hN hc.1 hc.2 hi (hrun T' hT) k.size k.defers (fun t _ => ?_) s fun E' x w' p1 p2 p3 => ?_
    · have := congrFun hT t
      simp only [ofT] at this
      rw [this]
      exact k.reg t
    · exact q3 w0 E' _ w' (k.put p1 hd p2) p3 Q fun E2 a2 w2 z1 z2 z3 => hQ E2 a2 w2 (p1.trans z1) z2 z3
noncomputable def toF (e : Ent) : EntF := ⟨ofT e.r, e.h, e.v⟩
theorem heapF_map (es : List Ent) (hf : Heap) (i : Nat) : heapF (es.map toF) hf i = heapAt es hf i := by
  unfold heapF heapAt
  rw [List.getElem?_map]
  cases es[i]? <;> rfl
theorem wpD_sound {all : Array Oper} : ∀ (l : List Oper) (T0 : Regs) (h : Heap) (K : List EntF → RF → Heap → Prop), wpD P (resOs P nt all l) (ofT T0) h K → Out nt (ofT T0) →
    ∃ es Tf hf, K (es.map toF) (ofT Tf) hf ∧ Out nt (ofT Tf) ∧ es.length = l.length ∧ heapAt es hf 0 = h ∧ regAt es Tf 0 = T0 ∧
      ∀ j o, l[j]? = some o → ∃ e call, es[j]? = some e ∧ (CallOk P call ∧ CallBody P call) ∧ (dopC P nt all o).run call e.r e.h = .val e.v (heapAt es hf (j + 1)) ∧ regAt es Tf (j + 1) = (putC o.dst).run e.r e.v
  | [], T0, h, K, H, ho => ⟨[], T0, h, H, ho, rfl, rfl, rfl, fun j o hj => by simp at hj⟩
  | o :: os, T0, h, K, H, ho => by
    simp only [resOs, wpD] at H
    obtain ⟨call, v, h1, hc, hd, H1, hrun⟩ := GO.wp_run H
    rw [← put_of] at H1
    obtain ⟨es, Tf, hf, q1, q2, q3, q4, q5, q6⟩ := wpD_sound os _ h1 _ H1 (by rw [put_of]; exact ho.set hd v)
    refine ⟨⟨T0, h, v⟩ :: es, Tf, hf, q1, q2, by simp [q3], by simp [heapAt], by simp [regAt], fun j o' hj => ?_⟩
    cases j with
    | zero =>
      simp only [List.getElem?_cons_zero, Option.some.injEq] at hj
      subst hj
      exact ⟨⟨T0, h, v⟩, call, rfl, hc, by rw [heapAt_succ, q4]; exact hrun T0 rfl, by rw [regAt_succ, q5]⟩
    | succ j =>
      obtain ⟨e, c, p1, p2, p3, p4⟩ := q6 j o' (by simpa using hj)
      exact ⟨e, c, by simpa using p1, p2, by rw [heapAt_succ]; exact p3, by rw [regAt_succ]; exact p4⟩
theorem askP_mem {o : Option GO} {e : Option EntF} {es : List EntF} {hf : Heap} : ∀ {ss : List Nat}, askP P o e es hf ss → ∀ s ∈ ss, ∃ o' e', o = some o' ∧ e = some e' ∧ o'.wp P e'.r (heapF es hf s) fun _ v' _ => v' = e'.v
  | [], _, s, h => by simp at h
  | s' :: ss, H, s, hm => by
    simp only [askP] at H
    simp only [List.mem_cons] at hm
    rcases hm with rfl | hm
    · cases o with
      | none => exact H.1.elim
      | some o =>
        cases e with
        | none => exact H.1.elim
        | some e => exact ⟨o, e, rfl, rfl, H.1⟩
    · exact askP_mem H.2 s hm
theorem asksL_mem {ops : List Oper} {masks poss starts : List Nat} {gs : List GO} {es : List EntF} {hf : Heap} : ∀ {l : List Oper} {i : Nat}, asksP P gs es hf (asksL P ops masks poss starts i l) → ∀ j o, l[j]? = some o → looks o.op = true → isEff P o.op = false →
    askP P gs[posOf poss (i + j)]? es[posOf poss (i + j)]? es hf (starts.filter (mayStand P masks ops poss (i + j) ((masks[i + j]?).getD 0)))
  | [], i, _, j, o, h, _, _ => by simp at h
  | o' :: os, i, H, j, o, h, h1, h2 => by
    simp only [asksL] at H
    cases j with
    | zero =>
      simp only [List.getElem?_cons_zero, Option.some.injEq] at h
      subst h
      rw [h1, h2] at H
      simp only [Bool.not_false, Bool.and_true, cond_true, asksP] at H
      exact H.1
    | succ j =>
      have H' : asksP P gs es hf (asksL P ops masks poss starts (i + 1) os) := by
        cases hc : (looks o'.op && !isEff P o'.op) with
        | true => rw [hc] at H; simp only [cond_true, asksP] at H; exact H.2
        | false => rw [hc] at H; exact H
      have := asksL_mem H' j o (by simpa using h) h1 h2
      rw [show i + 1 + j = i + (j + 1) from by omega] at this
      exact this
theorem draw_wp (hnt : nt ≤ top) (hM : P.follows .mixedOrders = true) (hN : NamesOk P) {id : Nat} {ops : Array Oper} {order poss : List Nat} {r : RF} {h : Heap} {Q : Ex → RF → Heap → Prop} (ho : Out nt r)
    (H : wpC P (resDraw P nt ops order poss) r h Q) : ∃ r' h', Q .normal r' h' ∧ Out nt r' ∧ CodeV P nt (.region id ops true) r h .normal r' h' := by
  unfold resDraw at H
  cases hf : (permOk ops.size order poss && drawFine P ops poss) with
  | false => rw [hf] at H; exact H.elim
  | true =>
    rw [hf] at H
    simp only [cond_true, wpC] at H
    simp only [Bool.and_eq_true] at hf
    obtain ⟨hperm, hfine⟩ := hf
    unfold permOk at hperm
    simp only [Bool.and_eq_true, Nat.beq_eq] at hperm
    obtain ⟨ho1, ho2, ho3, ho4⟩ := hperm
    have posLt : ∀ k, k < ops.size → posOf poss k < ops.size ∧ order[posOf poss k]? = some k := by
      intro k hk
      have hg : poss[k]? = some (posOf poss k) := by
        unfold posOf
        rw [List.getElem?_eq_getElem (by omega)]
        rfl
      have := permAt_get ho3 hg
      rw [Nat.zero_add] at this
      exact ⟨by have := (List.getElem?_eq_some_iff.1 this).1; omega, this⟩
    have ordAt : ∀ p, p < ops.size → ∃ i, i < ops.size ∧ posOf poss i = p := by
      intro p hp
      have hg : order[p]? = some (order[p]'(by omega)) := List.getElem?_eq_getElem (by omega)
      have := permAt_get ho4 hg
      rw [Nat.zero_add] at this
      refine ⟨order[p]'(by omega), by have := (List.getElem?_eq_some_iff.1 this).1; omega, ?_⟩
      unfold posOf
      rw [this]
      rfl
    obtain ⟨T0, hT0⟩ := exists_trie ho
    rw [← hT0] at H ho
    obtain ⟨es, Tf, hh, ⟨hasks, hQ⟩, hout, q1, q2, q3, q4⟩ := wpD_sound _ T0 h _ H ho
    refine ⟨_, hh, hQ, hout, fun w0 E a w k s Q' hQ' => ?_⟩
    have step : ∀ i : Nat, ∃ call, (CallOk P call ∧ CallBody P call) ∧ ∀ o, ops[i]? = some o → ∃ e, es[posOf poss i]? = some e ∧ (dopC P nt ops o).run call e.r e.h = .val e.v (heapAt es hh (posOf poss i + 1)) ∧ regAt es Tf (posOf poss i + 1) = (putC o.dst).run e.r e.v := by
      intro i
      cases hi : ops[i]? with
      | none => exact ⟨nocall, nocall_ok P, fun o h => by cases h⟩
      | some o =>
        obtain ⟨e, call, p1, p2, p3, p4⟩ := q4 _ o (opsAt_get (posLt i (Array.getElem?_eq_some_iff.1 hi).1).2 hi)
        exact ⟨call, p2, fun o' ho' => by cases ho'; exact ⟨e, p1, p3, p4⟩⟩
    obtain ⟨calls, hcalls⟩ := Classical.axiomOfChoice step
    have hask : ∀ j o, ops[j]? = some o → looks o.op = true → isEff P o.op = false → ∃ e, es[posOf poss j]? = some e ∧ ∀ s ∈ levelStarts P poss 0 ops.toList,
        mayStand P (masksFrom [] ops.toList) ops.toList poss j (((masksFrom [] ops.toList)[j]?).getD 0) s = true → ∃ c h', (CallOk P c ∧ CallBody P c) ∧ (dopC P nt ops o).run c e.r (heapAt es hh s) = .val e.v h' := by
      intro j o hjo hlo hef
      have hj := (Array.getElem?_eq_some_iff.1 hjo).1
      obtain ⟨e, p1, p2, p3⟩ := (hcalls j).2 o hjo
      refine ⟨e, p1, fun s hs hm => ?_⟩
      cases hl : anyEff P ops.toList with
      | true =>
        rw [hl] at hasks
        simp only [cond_true] at hasks
        have := asksL_mem hasks j o (by simpa using hjo) hlo hef
        rw [Nat.zero_add] at this
        obtain ⟨o', e', z1, z2, z3⟩ := askP_mem this s (List.mem_filter.2 ⟨hs, hm⟩)
        rw [resOs_map, List.getElem?_map, opsAt_get (posLt j hj).2 hjo] at z1
        simp only [Option.map_some, Option.some.injEq] at z1
        rw [List.getElem?_map, p1] at z2
        simp only [Option.map_some, Option.some.injEq] at z2
        subst z1; subst z2
        rw [heapF_map] at z3
        obtain ⟨c, v, h', y1, _, y3, y4⟩ := GO.wp_run z3
        have y4' := y4 e.r rfl
        rw [show v = e.v from y3] at y4'
        exact ⟨c, h', y1, y4'⟩
      | false =>
        have none : ∀ (l : List Oper), anyEff P l = false → ∀ (j : Nat) (o : Oper), l[j]? = some o → isEff P o.op = false := by
          intro l
          induction l with
          | nil => intro _ j o h; simp at h
          | cons x l ih =>
            intro h j o ho
            simp only [anyEff, Bool.or_eq_false_iff] at h
            cases j with
            | zero => simp only [List.getElem?_cons_zero, Option.some.injEq] at ho; subst ho; exact h.1
            | succ j => exact ih h.2 j o (by simpa using ho)
        have hs' : s = ops.size := by
          rcases levelStarts_spec hs with h | ⟨j', o', h1, h2, h3⟩
          · simpa using h
          · have := none _ hl j' o' h1
            unfold isChain at h2
            rw [this] at h2
            cases h2
        have flat : ∀ d, d ≤ ops.size → heapAt es hh d = heapAt es hh 0 := by
          intro d
          induction d with
          | zero => intro _; rfl
          | succ d ih =>
            intro hd
            obtain ⟨i, hi1, hi2⟩ := ordAt d (by omega)
            have hio : ops[i]? = some ops[i] := Array.getElem?_eq_getElem hi1
            obtain ⟨ed, w1, w2, _⟩ := (hcalls i).2 ops[i] hio
            rw [hi2] at w1 w2
            have hne : isEff P ops[i].op = false := none _ hl i _ (by simp)
            rw [(dop_quiet hne w2).1, ← ih (by omega)]
            simp [heapAt, w1]
        have hpj := (posLt j hj).1
        have : e.h = heapAt es hh s := by rw [hs', flat ops.size (Nat.le_refl _), ← flat (posOf poss j) (by omega)]; simp [heapAt, p1]
        rw [← this]
        exact ⟨_, _, (hcalls j).1, p2⟩
    have C : Cert P nt ops calls es T0 h Tf hh (levelStarts P poss 0 ops.toList) order poss :=
      ⟨by rw [q1, opsAt_length, ho1], posLt, ordAt, q2, q3, fun i o hio => (hcalls i).2 o hio, hfine,
        by simpa using levelStarts_end (P := P) (poss := poss) (l := ops.toList) (i := 0),
        fun j o h1 h2 => by simpa using levelStarts_mem (poss := poss) (i := 0) (j := j) (l := ops.toList) (by simpa using h1) h2,
        fun s hs => by
          rcases levelStarts_spec hs with h | ⟨j, o, h1, h2, h3⟩
          · exact .inl (by simpa using h)
          · exact .inr ⟨j, o, by simpa using h1, h2, by simpa using h3⟩,
        hask⟩
    have hk : RegRel E nt T0 a := ⟨k.size, k.defers, fun t _ => by
      have := congrFun hT0 t
      simp only [ofT] at this
      rw [this]
      exact k.reg t⟩
    have hnone : ∀ k, ¬ (Array.replicate ops.size false).getD k false = true := by
      intro k
      rw [getD_iff, Array.getElem?_replicate]
      split <;> simp
    have hheld : Holds w0 w0 es hh poss (Held ops es hh poss (Array.replicate ops.size false) 0) :=
      ⟨rfl, fun _ _ => rfl, fun k hk => (by obtain ⟨_, _, _, _, h0⟩ := hk; omega), fun k k' hk => (by obtain ⟨_, _, _, _, h0⟩ := hk; omega)⟩
    obtain ⟨s', F', g1, g2, g3, g4, g5, g6⟩ := C.advance ops.size 0 (by omega) (fun k o _ _ _ => hnone k) w0 hheld (E := E) (w := { w with drawn := w.drawn }) (by rw [q2]; exact s.same rfl rfl rfl rfl)
    have fin : ∀ E' a' w', E.le E' → RegRel E' nt Tf a' → Sim w0 E' hh w' → Q' .normal a' w' := by
      intro E' a' w' z1 z2 z3
      refine hQ' E' a' w' z1 ⟨z2.size, z2.defers, fun t => ?_⟩ z3
      by_cases ht : t ≤ top
      · exact z2.reg t ht
      · have hsz := z2.size
        rw [hout t (by omega)]
        simp [Rel]
    refine wp_region_any hM (draw_any hN (fun i => (hcalls i).1.1) (fun i => (hcalls i).1.2) C (E0 := E) fin ops.size _ a _ ?_ ?_)
    · exact Nat.le_trans List.countP_le_length (by simp)
    · refine ⟨by simp, hk.size, hk.defers, fun k' o e hk => absurd hk (hnone k'), E, s', F', Env.le.refl E, g1, g3, fun k' o h1 h2 => ⟨fun h => absurd h (hnone k'), fun h => by have := g4 k' o h1 h2 (Nat.zero_le _); omega⟩,
        fun k' o _ _ h => absurd h (hnone k'), g5, ?_, fun t ht => .inr ⟨fun k' o hk => absurd hk (hnone k'), hk.reg t ht⟩⟩
      exact g6.same rfl rfl rfl rfl
theorem wpC_sound (hnt : nt ≤ top) (hM : P.follows .mixedOrders = true) (hN : NamesOk P) : ∀ (c : Code) (r : RF) (h : Heap) (Q : Ex → RF → Heap → Prop), Out nt r → wpC P (resK P nt c) r h Q →
    ∃ e r' h', Q e r' h' ∧ Out nt r' ∧ CodeV P nt c r h e r' h' := by
  intro c
  induction c with
  | skip =>
    intro r h Q ho H
    exact ⟨.normal, r, h, H, ho, fun w0 E a w k s Q' hQ => wp_skip (hQ E a w (Env.le.refl E) k s)⟩
  | label l =>
    intro r h Q ho H
    exact ⟨.normal, r, h, H, ho, fun w0 E a w k s Q' hQ => wp_label (hQ E a w (Env.le.refl E) k s)⟩
  | exit id =>
    intro r h Q ho H
    exact ⟨.exit id, r, h, H, ho, fun w0 E a w k s Q' hQ => wp_exit (hQ E a w (Env.le.refl E) k s)⟩
  | ret =>
    intro r h Q ho H
    exact ⟨.ret, r, h, H, ho, fun w0 E a w k s Q' hQ => wp_ret (hQ E a w (Env.le.refl E) k s)⟩
  | region id ops draw =>
    intro r h Q ho H
    cases draw with
    | true =>
      simp only [resK, cond_true] at H
      obtain ⟨r', h', q1, q2, q3⟩ := draw_wp hnt hM hN (id := id) ho H
      exact ⟨.normal, r', h', q1, q2, q3⟩
    | false =>
      simp only [resK, cond_false, wpC] at H
      obtain ⟨r', h', q1, q2, q3⟩ := wpOs_sound hN ops.toList 0 (fun j => by simp) r h _ ho H
      refine ⟨.normal, r', h', q1, q2, fun w0 E a w k s Q' hQ => ?_⟩
      refine wp_region ?_
      have := q3 w0 E a w k s Q' hQ
      rw [List.range_eq_range']
      simpa using this
  | seq x y ihx ihy =>
    intro r h Q ho H
    simp only [resK, wpC] at H
    obtain ⟨e, r1, h1, q1, q2, q3⟩ := ihx r h _ ho H
    cases e with
    | normal =>
      obtain ⟨e, r2, h2, p1, p2, p3⟩ := ihy r1 h1 Q q2 q1
      refine ⟨e, r2, h2, p1, p2, fun w0 E a w k s Q' hQ => ?_⟩
      refine wp_seq (q3 w0 E a w k s _ fun E' a' w' z1 z2 z3 => ?_).wp
      exact (p3 w0 E' a' w' z2 z3 Q' fun E2 a2 w2 y1 y2 y3 => hQ E2 a2 w2 (z1.trans y1) y2 y3).wp
    | exit i =>
      refine ⟨.exit i, r1, h1, q1, q2, fun w0 E a w k s Q' hQ => ?_⟩
      refine wp_seq (q3 w0 E a w k s _ fun E' a' w' z1 z2 z3 => ?_).wp
      exact hQ E' a' w' z1 z2 z3
    | ret =>
      refine ⟨.ret, r1, h1, q1, q2, fun w0 E a w k s Q' hQ => ?_⟩
      refine wp_seq (q3 w0 E a w k s _ fun E' a' w' z1 z2 z3 => ?_).wp
      exact hQ E' a' w' z1 z2 z3
  | cond c x y ihx ihy =>
    intro r h Q ho H
    simp only [resK, wpC] at H
    cases hv : (rx c).ev r <;> rw [hv] at H <;> simp only at H <;> try (exact H.elim)
    rename_i t
    have hc : ∀ E a, RegF E nt r a → a.eval c = .bool t := by
      intro E a k
      cases c with
      | tmp d =>
        simp only [rx] at hv
        cases hb : Nat.ble d top with
        | false => rw [hb] at hv; simp [RX.ev] at hv
        | true =>
          rw [hb] at hv
          simp only [cond_true, RX.ev] at hv
          have := k.reg d
          rw [hv] at this
          simp only [Rel] at this
          exact this
      | const v =>
        simp only [rx, RX.ev] at hv
        have := ofVal_rel E v
        rw [hv] at this
        simp only [Rel] at this
        exact this
      | func f => simp [rx, RX.ev] at hv
      | global g => simp [rx, RX.ev] at hv
    cases t with
    | true =>
      obtain ⟨e, r1, h1, q1, q2, q3⟩ := ihx r h Q ho (H.1 rfl)
      exact ⟨e, r1, h1, q1, q2, fun w0 E a w k s Q' hQ => wp_cond_true (hc E a k) (q3 w0 E a w k s Q' hQ).wp⟩
    | false =>
      obtain ⟨e, r1, h1, q1, q2, q3⟩ := ihy r h Q ho (H.2 rfl)
      exact ⟨e, r1, h1, q1, q2, fun w0 E a w k s Q' hQ => wp_cond_false (hc E a k) (q3 w0 E a w k s Q' hQ).wp⟩
  | block id x ih =>
    intro r h Q ho H
    simp only [resK, wpC] at H
    obtain ⟨e, r1, h1, q1, q2, q3⟩ := ih r h _ ho H
    refine ⟨e.leave id, r1, h1, q1, q2, fun w0 E a w k s Q' hQ => ?_⟩
    refine wp_block (q3 w0 E a w k s _ fun E' a' w' z1 z2 z3 => ?_).wp
    cases e with
    | normal => exact hQ E' a' w' z1 z2 z3
    | ret => exact hQ E' a' w' z1 z2 z3
    | exit i =>
      have := hQ E' a' w' z1 z2 z3
      simp only [toExit, Exit.inBlock]
      simp only [Ex.leave] at this
      by_cases hi : i = id
      · rw [if_pos hi] at this ⊢; exact this
      · rw [if_neg hi] at this ⊢; exact this
  | loop x ih =>
    intro r h Q ho H
    simp only [resK, wpC] at H
    obtain ⟨I, μ, hI, hround⟩ := H
    have key : ∀ n r h, μ r h = n → I r h → Out nt r → ∃ e r' h', Q e r' h' ∧ Out nt r' ∧ CodeV P nt (.loop x) r h e r' h' := by
      intro n
      induction n using Nat.strongRecOn with
      | _ n ihn =>
        intro r h hn hI ho
        obtain ⟨e, r1, h1, q1, q2, q3⟩ := ih r h _ ho (hround r h hI)
        have body : ∀ (w0 : Fr) E a w, RegF E nt r a → Sim w0 E h w → ∀ b kk cs, ∃ a' w' E', E.le E' ∧ RegF E' nt r1 a' ∧ Sim w0 E' h1 w' ∧ Arrives P (lone (b.at a (.code x :: .inLoop x :: kk)) cs w) b (.inLoop x :: kk) cs (toExit e) a' w' := by
          intro w0 E a w k s b kk cs
          have := (q3 w0 E a w k s (fun e' a' w' => e' = toExit e ∧ ∃ E', E.le E' ∧ RegF E' nt r1 a' ∧ Sim w0 E' h1 w') (fun E' a' w' q1 q2 q3 => ⟨rfl, E', q1, q2, q3⟩)).wp b (.inLoop x :: kk) cs
          obtain ⟨e2, a2, w2, ⟨rfl, E2, z1, z2, z3⟩, harr⟩ := this
          exact ⟨a2, w2, E2, z1, z2, z3, harr⟩
        cases e with
        | normal =>
          obtain ⟨hI1, hlt⟩ := q1
          obtain ⟨e2, r2, h2, p1, p2, p3⟩ := ihn (μ r1 h1) (hn ▸ hlt) r1 h1 rfl hI1 q2
          refine ⟨e2, r2, h2, p1, p2, fun w0 E a w k s Q' hQ b kk cs => ?_⟩
          obtain ⟨a2, w2, E2, z1, z2, z3, harr⟩ := body w0 E a w k s b kk cs
          obtain ⟨e3, a3, w3, y1, y2⟩ := p3 w0 E2 a2 w2 z2 z3 Q' (fun E4 a4 w4 t1 t2 t3 => hQ E4 a4 w4 (z1.trans t1) t2 t3) b kk cs
          exact ⟨e3, a3, w3, y1, .of_steps (Steps.trans harr (.one step_inLoop)) y2⟩
        | exit i =>
          refine ⟨.exit i, r1, h1, q1, q2, fun w0 E a w k s Q' hQ b kk cs => ?_⟩
          obtain ⟨a2, w2, E2, z1, z2, z3, harr⟩ := body w0 E a w k s b kk cs
          exact ⟨.exit i, a2, w2, hQ E2 a2 w2 z1 z2 z3, .pass (x := .inLoop x) rfl (fun _ _ => .inl (by simp)) harr⟩
        | ret =>
          refine ⟨.ret, r1, h1, q1, q2, fun w0 E a w k s Q' hQ b kk cs => ?_⟩
          obtain ⟨a2, w2, E2, z1, z2, z3, harr⟩ := body w0 E a w k s b kk cs
          exact ⟨.ret, a2, w2, hQ E2 a2 w2 z1 z2 z3, .pass (x := .inLoop x) rfl (fun _ _ => .inl (by simp)) harr⟩
    exact key _ r h rfl hI ho
  | scope x ih =>
    intro r h Q ho H
    obtain ⟨e, r1, h1, q1, q2, q3⟩ := ih r h Q ho H
    refine ⟨e, r1, h1, q1, q2, fun w0 E a w k s Q' hQ => ?_⟩
    refine wp_scope_straight (q3 w0 E a w k s _ fun E' a' w' z1 z2 z3 => ?_).wp
    have := hQ E' a' w' z1 z2 z3
    cases e <;> exact this
  | rangeFunc f ps x y _ _ => intro r h Q ho H; exact H.elim
  | goto l => intro r h Q ho H; exact H.elim
  | refuse why => intro r h Q ho H; exact H.elim
inductive RR' where
  | t (n : Nat)
  | c1 (n : Nat)
  | cn (n size : Nat)
  | bad
def resR (P : Program) (nt : Nat) : List ResultVar → List RR'
  | [] => []
  | .tmp t :: rs => (bif Nat.ble t top && Nat.blt t nt then .t t else .bad) :: resR P nt rs
  | .cell a t :: rs => (bif Nat.ble a top && Nat.blt a nt then (match tiOf P t with
    | none => .bad
    | some ti => bif ti.agg then .cn a ti.size else bif Nat.beq ti.size 1 then .c1 a else .bad) else .bad) :: resR P nt rs
noncomputable def evR (r : RF) (h : Heap) : List RR' → Option (List V)
  | [] => some []
  | x :: xs => match (match x with
    | .t n => some (r n)
    | .c1 n => loadOne h (r n)
    | .cn n size => loadMany size h (r n)
    | .bad => none) with
    | none => none
    | some v => match evR r h xs with
      | none => none
      | some vs => some (v :: vs)
theorem evR_run {r : RF} {h : Heap} {T' : Regs} (hT : ofT T' = r) : ∀ {l : List ResultVar} {vs : List V}, evR r h (resR P nt l) = some vs → (resC P nt l).run T' h = some vs
  | [], vs, he => by simpa [evR, resR, resC] using he
  | .tmp t :: rs, vs, he => by
    simp only [resR, evR] at he
    unfold resC
    cases hc : (Nat.ble t top && Nat.blt t nt) with
    | false => rw [hc] at he; simp at he
    | true =>
      rw [hc] at he
      simp only [cond_true] at he ⊢
      cases hr : evR r h (resR P nt rs) with
      | none => rw [hr] at he; cases he
      | some vs' =>
        rw [hr] at he
        rw [evR_run hT hr]
        have := congrFun hT t
        simp only [ofT] at this
        rw [this]
        exact he
  | .cell a t :: rs, vs, he => by
    simp only [resR, evR] at he
    unfold resC
    cases hc : (Nat.ble a top && Nat.blt a nt) with
    | false => rw [hc] at he; simp at he
    | true =>
      rw [hc] at he
      simp only [cond_true] at he ⊢
      have hra := congrFun hT a
      simp only [ofT] at hra
      rw [hra]
      unfold loadC
      cases ht : tiOf P t with
      | none => rw [ht] at he; simp at he
      | some ti =>
        rw [ht] at he
        simp only at he ⊢
        cases hag : ti.agg with
        | true =>
          rw [hag] at he
          simp only [cond_true] at he ⊢
          cases hl : loadMany ti.size h (r a) with
          | none => rw [hl] at he; cases he
          | some v =>
            rw [hl] at he
            simp only at he ⊢
            cases hr : evR r h (resR P nt rs) with
            | none => rw [hr] at he; cases he
            | some vs' => rw [hr] at he; rw [evR_run hT hr]; exact he
        | false =>
          rw [hag] at he
          simp only [cond_false] at he ⊢
          cases hs : Nat.beq ti.size 1 with
          | false => rw [hs] at he; simp at he
          | true =>
            rw [hs] at he
            simp only [cond_true] at he ⊢
            cases hl : loadOne h (r a) with
            | none => rw [hl] at he; cases he
            | some v =>
              rw [hl] at he
              simp only at he ⊢
              cases hr : evR r h (resR P nt rs) with
              | none => rw [hr] at he; cases he
              | some vs' => rw [hr] at he; rw [evR_run hT hr]; exact he
theorem ofL_get : ∀ (l : List V) (t : Nat), RF.ofL l t = (l[t]?).getD .bad
  | [], t => by simp [RF.ofL]
  | v :: vs, t => by
    simp only [RF.ofL]
    cases t with
    | zero => simp
    | succ t => simp [ofL_get vs t]
def Ex.ends : Ex → Prop
  | .exit _ => False
  | _ => True
theorem ctr_of_wp (hM : P.follows .mixedOrders = true) (hN : NamesOk P) {f : FuncId} {fn : Func} {c : Code} {args : List V} {h : Heap} {K : V → Heap → Prop} (hf : P.funcs[f]? = some fn) (hb : fn.body = some c)
    (hnt : Nat.ble fn.ntmps top = true) (hal : Nat.ble args.length fn.ntmps = true) {rc : RC} {rr : List RR'} (hrc : resK P fn.ntmps c = rc) (hrr : resR P fn.ntmps fn.results.toList = rr)
    (H : wpC P rc (RF.ofL args) h fun e r h' => e.ends ∧ ∃ vs, evR r h' rr = some vs ∧ K (oneOf vs) h') : Ctr P f args h K := by
  subst hrc hrr
  rw [Nat.ble_eq] at hnt hal
  have ho : Out fn.ntmps (RF.ofL args) := by
    intro t ht
    rw [ofL_get, List.getElem?_eq_none (by omega)]
    rfl
  obtain ⟨e, r', h', ⟨hend, vs, hvs, hK⟩, hout, hcode⟩ := wpC_sound hnt hM hN c _ h _ ho H
  refine ⟨oneOf vs, h', .inl ⟨⟨fn, hf, by rw [hb]; rfl⟩, fun w0 E w xs hx s => ?_⟩, hK⟩
  have hlen := hx.length
  have hsz : xs.toArray.size ≤ fn.ntmps := by simp; omega
  refine calls_of_wp hf hb ?_
  have k : RegF E fn.ntmps (RF.ofL args) { tmps := xs.toArray ++ Array.replicate (fn.ntmps - xs.toArray.size) undef, defers := [] } := by
    refine ⟨by simp; omega, rfl, fun t => ?_⟩
    rw [ofL_get]
    cases hg : args[t]? with
    | none => simp [Rel]
    | some v =>
      obtain ⟨y, hy, hr⟩ := hx.get t v hg
      simp only [Option.getD_some]
      have htl : t < xs.length := (List.getElem?_eq_some_iff.1 hy).1
      rw [Array.getD_eq_getD_getElem?, Array.getElem?_append_left (by simpa using htl)]
      simp only [List.getElem?_toArray, hy, Option.getD_some]
      exact hr
  have fin : ∀ E' a' w', E.le E' → RegF E' fn.ntmps r' a' → Sim w0 E' h' w' → a'.defers = [] ∧ ∃ v, (results fn a'.tmps).run P w' = .ok v w' ∧ (∃ E2 x, Ending.returned v = .returned x ∧ E.le E2 ∧ Rel E2 (oneOf vs) x ∧ Sim w0 E2 h' w') := by
    intro E' a' w' q1 q2 q3
    obtain ⟨T', hT⟩ := exists_trie hout
    have hk : RegRel E' fn.ntmps T' a' := ⟨q2.size, q2.defers, fun t _ => by
      have := congrFun hT t
      simp only [ofT] at this
      rw [this]
      exact q2.reg t⟩
    obtain ⟨ys, hy1, hy2⟩ := resC_sound hk q3 (evR_run hT hvs)
    obtain ⟨x, hx1, hx2⟩ := oneOf_rel hy1 fn a' P w' hy2
    exact ⟨q2.defers, x, hx1, E', x, rfl, q1, hx2, q3⟩
  refine (hcode w0 E _ w k s _ fun E' a' w' q1 q2 q3 => ?_).wp
  have := fin E' a' w' q1 q2 q3
  cases e with
  | normal => exact this
  | ret => exact this
  | exit i => exact hend.elim
end
end Go.Proofs.YtjbiefneffiogaaGreat.Am

namespace Go.Proofs.YtjbiefneffiogaaGreat.Am
variable [Lay]
open Go Go.RowKit
section
variable {α : Type} (d : α)
theorem T.put_put (x y : α) : ∀ (p : Pa) (t : T α), T.put d x p (T.put d y p t) = T.put d x p t
  | .z, t => by cases t <;> rfl
  | .l p, t => by
    cases t with
    | e => exact congrArg (fun q => T.n d q .e) (T.put_put x y p .e)
    | n v l r => exact congrArg (fun q => T.n v q r) (T.put_put x y p l)
  | .r p, t => by
    cases t with
    | e => exact congrArg (fun q => T.n d .e q) (T.put_put x y p .e)
    | n v l r => exact congrArg (fun q => T.n v l q) (T.put_put x y p r)
theorem T.put_comm (x y : α) : ∀ (p q : Pa) (t : T α), p ≠ q → T.put d x p (T.put d y q t) = T.put d y q (T.put d x p t)
  | .z, .z, t, h => absurd rfl h
  | .z, .l q, t, _ => by cases t <;> rfl
  | .z, .r q, t, _ => by cases t <;> rfl
  | .l p, .z, t, _ => by cases t <;> rfl
  | .r p, .z, t, _ => by cases t <;> rfl
  | .l p, .r q, t, _ => by cases t <;> rfl
  | .r p, .l q, t, _ => by cases t <;> rfl
  | .l p, .l q, t, h => by
    have h' : p ≠ q := fun e => h (by rw [e])
    cases t with
    | e => exact congrArg (fun s => T.n d s .e) (T.put_comm x y p q .e h')
    | n v l r => exact congrArg (fun s => T.n v s r) (T.put_comm x y p q l h')
  | .r p, .r q, t, h => by
    have h' : p ≠ q := fun e => h (by rw [e])
    cases t with
    | e => exact congrArg (fun s => T.n d .e s) (T.put_comm x y p q .e h')
    | n v l r => exact congrArg (fun s => T.n v l s) (T.put_comm x y p q r h')
end
theorem pa_eq (i j : Nat) : (pa i = pa j) = (i = j) := by
  apply propext
  exact ⟨pa_inj, fun h => by rw [h]⟩
theorem puts_put (vs : List V) : ∀ (i off : Nat) (x : V) (t : T V), i < off → T.put .bad x (pa i) (puts t off vs) = puts (T.put .bad x (pa i) t) off vs := by
  induction vs with
  | nil => intro i off x t _; rfl
  | cons v vs ih =>
    intro i off x t h
    simp only [puts]
    rw [ih i (off + 1) x _ (by omega), T.put_comm _ _ _ _ _ _ (fun e => by rw [pa_eq] at e; omega)]
def splice (vs : List V) (off : Nat) (ws : List V) : List V := vs.take off ++ ws ++ vs.drop (off + ws.length)
theorem puts_set : ∀ (vs : List V) (base i : Nat) (x : V) (t : T V), i < vs.length → T.put .bad x (pa (base + i)) (puts t base vs) = puts t base (vs.set i x)
  | [], _, i, _, _, h => by simp at h
  | v :: vs, base, i, x, t, h => by
    cases i with
    | zero =>
      simp only [puts, Nat.add_zero, List.set]
      rw [puts_put vs base (base + 1) x _ (by omega), T.put_put]
    | succ i =>
      simp only [puts, List.set]
      have := puts_set vs (base + 1) i x (T.put .bad v (pa base) t) (by simpa using h)
      rw [show base + (i + 1) = base + 1 + i from by omega]
      exact this
theorem set_splice (vs : List V) (off : Nat) (w : V) (ws : List V) (h : off < vs.length) : splice (vs.set off w) (off + 1) ws = splice vs off (w :: ws) := by
  unfold splice
  have h1 : (vs.set off w).take (off + 1) = vs.take off ++ [w] := by
    rw [List.take_succ_eq_append_getElem (by simpa using h)]
    simp [List.take_set_of_le]
  have h2 : (vs.set off w).drop (off + 1 + ws.length) = vs.drop (off + (w :: ws).length) := by
    rw [List.drop_set_of_lt (by omega)]
    congr 1
    simp
    omega
  rw [h1, h2]
  simp
theorem splice_length (vs : List V) (off : Nat) (ws : List V) (h : off + ws.length ≤ vs.length) : (splice vs off ws).length = vs.length := by
  unfold splice
  simp
  omega
theorem puts_splice : ∀ (ws vs : List V) (off : Nat), off + ws.length ≤ vs.length → puts (puts .e 0 vs) off ws = puts .e 0 (splice vs off ws)
  | [], vs, off, h => by simp [puts, splice]
  | w :: ws, vs, off, h => by
    simp only [List.length_cons] at h
    simp only [puts]
    have h1 := puts_set vs 0 off w .e (by omega)
    rw [Nat.zero_add] at h1
    rw [h1, puts_splice ws (vs.set off w) (off + 1) (by simp; omega), set_splice vs off w ws (by omega)]
theorem get_puts (vs : List V) : ∀ (off i : Nat) (t : T V), T.get .bad (pa (off + i)) (puts t off vs) = if i < vs.length then (vs[i]?).getD .bad else T.get .bad (pa (off + i)) t := by
  induction vs with
  | nil => intro off i t; simp [puts]
  | cons v vs ih =>
    intro off i t
    simp only [puts]
    cases i with
    | zero =>
      have : ∀ (ws : List V) (o : Nat) (s : T V), off < o → T.get .bad (pa off) (puts s o ws) = T.get .bad (pa off) s := by
        intro ws
        induction ws with
        | nil => intro o s _; rfl
        | cons w ws ihw =>
          intro o s ho
          simp only [puts]
          rw [ihw (o + 1) _ (by omega), T.get_put, if_neg (fun e => by rw [pa_eq] at e; omega)]
      rw [Nat.add_zero, this vs (off + 1) _ (by omega), T.get_put]
      simp
    | succ i =>
      have := ih (off + 1) i (T.put .bad v (pa off) t)
      rw [show off + 1 + i = off + (i + 1) from by omega] at this
      rw [this, T.get_put]
      have hne : ¬ pa off = pa (off + (i + 1)) := fun e => by rw [pa_eq] at e; omega
      rw [if_neg hne]
      simp
theorem gets_eq (vs : List V) : ∀ (n i : Nat), i + n ≤ vs.length → gets (puts .e 0 vs) i n = (vs.drop i).take n
  | 0, i, h => by simp [gets]
  | n + 1, i, h => by
    simp only [gets]
    have h1 := get_puts vs 0 i .e
    rw [Nat.zero_add] at h1
    rw [h1, if_pos (by omega), gets_eq vs n (i + 1) (by omega)]
    have hd : vs.drop i = vs[i] :: vs.drop (i + 1) := List.drop_eq_getElem_cons (by omega)
    rw [hd, List.take_succ_cons]
    simp [List.getElem?_eq_getElem (by omega : i < vs.length)]
noncomputable def Blk.ofL (vs : List V) (esz : Nat) (st : Bool) : Blk := .cells vs.length (puts .e 0 vs) esz st
noncomputable def Blk.ro (vs : List V) : Blk := .view vs.length (puts .e 0 vs)
def Rd (h : Heap) (b : Pa) (vs : List V) : Prop := h.get b = .ro vs ∨ ∃ esz st, h.get b = .ofL vs esz st
def Own (h : Heap) (b : Pa) (vs : List V) (esz : Nat) (st : Bool) : Prop := h.get b = .ofL vs esz st
theorem Rd.see {α : Type} {h : Heap} {b : Pa} {vs : List V} (H : Rd h b vs) (d : α) (f : Nat → T V → α) : (h.get b).see d f = f vs.length (puts .e 0 vs) := by
  rcases H with H | ⟨_, _, H⟩ <;> rw [H] <;> rfl
theorem Own.lay {h : Heap} {b : Pa} {vs : List V} {esz : Nat} {st : Bool} (H : Own h b vs esz st) {off : Nat} {ws : List V} (ho : off + ws.length ≤ vs.length) (h1 : ones ws = true) :
    lay h b off ws = some (h.set b (.ofL (splice vs off ws) esz st)) := by
  unfold Am.lay
  rw [show h.get b = .cells vs.length (puts .e 0 vs) esz st from H]
  simp only [Blk.on]
  rw [show Nat.ble (off + ws.length) vs.length = true from by rw [Nat.ble_eq]; exact ho, h1]
  simp only [Bool.and_true, cond_true, Option.some.injEq, Blk.ofL]
  rw [splice_length vs off ws ho, puts_splice ws vs off ho]
theorem newCells_eq {h : Heap} {vs : List V} (hl : vs.length ≤ top) : newCells h vs = some (h.new (.ofL vs 0 false)) := by
  unfold newCells
  rw [show Nat.ble vs.length top = true from by rw [Nat.ble_eq]; exact hl]
  rfl
theorem newGrow_eq {h : Heap} {vs : List V} {esz : Nat} {st : Bool} (hl : vs.length ≤ top) (he : 1 ≤ esz) : newGrow h vs esz st = some (h.new (.ofL vs esz st)) := by
  unfold newGrow
  rw [show Nat.ble vs.length top = true from by rw [Nat.ble_eq]; exact hl, show Nat.ble 1 esz = true from by rw [Nat.ble_eq]; exact he]
  rfl
theorem next_new (h : Heap) (k : Blk) : (h.new k).next = h.next + 1 := rfl
theorem next_set (h : Heap) (b : Pa) (k : Blk) : (h.set b k).next = h.next := rfl
end Go.Proofs.YtjbiefneffiogaaGreat.Am

namespace Go.Proofs.YtjbiefneffiogaaGreat.Am
variable [Lay]
open Go Go.RowKit
section
variable {P : Program} {r : RF} {h : Heap}
theorem set_get (r : RF) (d : Nat) (v : V) (t : Nat) : RF.set r (some d) v t = if t = d then v else r t := (rfl)
theorem set_no (r : RF) (v : V) : RF.set r none v = r := (rfl)
theorem trim_get (r : RF) (u : Nat) (us : List Nat) (t : Nat) : RF.trim r (u :: us) t = if t = u then r t else RF.trim r us t := (rfl)
theorem ofL_hd (v : V) (vs : List V) : RF.ofL (v :: vs) 0 = v := (rfl)
theorem ofL_tl (v : V) (vs : List V) (t : Nat) : RF.ofL (v :: vs) (t + 1) = RF.ofL vs t := by simp [RF.ofL]
theorem ev_t (r : RF) (n : Nat) : RX.ev r (.t n) = r n := (rfl)
theorem ev_c (r : RF) (v : V) : RX.ev r (.c v) = v := (rfl)
theorem o_plain {d : Option Nat} {g : G} {rs : List Nat} {K : RF → V → Heap → Prop} : GO.wp P ⟨d, g, none, rs⟩ r h K = g.wp P (r.trim rs) h fun v h' => K (r.set d v) v h' := (rfl)
theorem o_gate {d : Option Nat} {g : G} {j : Nat} {want : Bool} {rs : List Nat} {K : RF → V → Heap → Prop} : GO.wp P ⟨d, g, some (j, want), rs⟩ r h K =
    gate (r.trim rs j) want (g.wp P (r.trim rs) h fun v h' => K (r.set d v) v h') (K (r.set d (.tuple [])) (.tuple []) h) := (rfl)
variable {K : V → Heap → Prop}
theorem eqKind_self (k : IntKind) : eqKind k k = true := by cases k <;> rfl
theorem leB_dec (a b : Int) : Int.leB a b = decide (a ≤ b) := leB_eq a b
theorem eqB_dec (a b : Int) : Int.eqB a b = decide (a = b) := by rw [eqB_eq]; rfl
variable (k : IntKind) (a b : Int)
theorem k_add : (BK.int .add).run P (.int k a) (.int k b) = some (.int k (k.wrap (a + b))) := by simp [BK.run, intC, intI, V.onInt, eqKind_self]
theorem k_sub : (BK.int .sub).run P (.int k a) (.int k b) = some (.int k (k.wrap (a - b))) := by simp [BK.run, intC, intI, V.onInt, eqKind_self]
theorem k_mul : (BK.int .mul).run P (.int k a) (.int k b) = some (.int k (k.wrap (a * b))) := by simp [BK.run, intC, intI, V.onInt, eqKind_self]
theorem k_quo (hb : b ≠ 0) : (BK.int .quo).run P (.int k a) (.int k b) = some (.int k (k.wrap (a.tdiv b))) := by simp [BK.run, intC, intD, V.onInt, eqKind_self, eqB_dec, hb]
theorem k_rem (hb : b ≠ 0) : (BK.int .rem).run P (.int k a) (.int k b) = some (.int k (a.tmod b)) := by simp [BK.run, intC, intD, V.onInt, eqKind_self, eqB_dec, hb]
theorem k_eql : (BK.int .eql).run P (.int k a) (.int k b) = some (.bool (decide (a = b))) := by simp [BK.run, intC, intB, V.onInt, eqKind_self, eqB_dec]
theorem k_neq : (BK.int .neq).run P (.int k a) (.int k b) = some (.bool (!decide (a = b))) := by simp [BK.run, intC, intB, V.onInt, eqKind_self, eqB_dec]
theorem k_lss : (BK.int .lss).run P (.int k a) (.int k b) = some (.bool (decide (a < b))) := by
  simp [BK.run, intC, intB, V.onInt, eqKind_self, leB_dec]
  rw [Bool.eq_iff_iff]; simp
theorem k_leq : (BK.int .leq).run P (.int k a) (.int k b) = some (.bool (decide (a ≤ b))) := by simp [BK.run, intC, intB, V.onInt, eqKind_self, leB_dec]
theorem k_gtr : (BK.int .gtr).run P (.int k a) (.int k b) = some (.bool (decide (b < a))) := by
  simp [BK.run, intC, intB, V.onInt, eqKind_self, leB_dec]
  rw [Bool.eq_iff_iff]; simp
theorem k_geq : (BK.int .geq).run P (.int k a) (.int k b) = some (.bool (decide (b ≤ a))) := by simp [BK.run, intC, intB, V.onInt, eqKind_self, leB_dec]
theorem k_beql (x y : Bool) : (BK.eqb false).run P (.bool x) (.bool y) = some (.bool (x == y)) := by simp [BK.run, eqBin, eqShape, eqBoolC]
theorem k_bneq (x y : Bool) : (BK.eqb true).run P (.bool x) (.bool y) = some (.bool (!(x == y))) := by simp [BK.run, eqBin, eqShape, eqBoolC]
theorem u_not (x : Bool) : unV .not (.bool x) = some (.bool (!x)) := (rfl)
theorem u_neg : unV .neg (.int k a) = some (.int k (k.wrap (0 - a))) := (rfl)
theorem wrap_i64 {n : Int} (h1 : -9223372036854775808 ≤ n) (h2 : n ≤ 9223372036854775807) : IntKind.i64.wrap n = n := by
  exact Go.IntWalk.i64_in n ⟨h1, h2⟩
end
section
variable {P : Program} {r : RF} {h : Heap} {Q : Ex → RF → Heap → Prop}
theorem c_reg {ops : List GO} : wpC P (.reg ops) r h Q = wpOs P ops r h (Q .normal) := (rfl)
theorem c_seq {a b : RC} : wpC P (.seq a b) r h Q = wpC P a r h fun e r' h' => e.andThen (wpC P b r' h' Q) (Q e r' h') := (rfl)
theorem then_normal {A B : Prop} : Ex.andThen .normal A B = A := (rfl)
theorem then_ret {A B : Prop} : Ex.andThen .ret A B = B := (rfl)
theorem then_exit {A B : Prop} {i : Nat} : Ex.andThen (.exit i) A B = B := (rfl)
theorem leave_normal {id : Nat} : Ex.leave id .normal = .normal := (rfl)
theorem leave_ret {id : Nat} : Ex.leave id .ret = .ret := (rfl)
theorem leave_exit {id i : Nat} : Ex.leave id (.exit i) = if i = id then .normal else .exit i := (rfl)
end
end Go.Proofs.YtjbiefneffiogaaGreat.Am

namespace Go.Proofs.YtjbiefneffiogaaGreat.Am
variable [Lay]
open Go Go.RowKit
def withO {α : Type} (o : Option α) (k : α → Prop) : Prop :=
  match o with
  | some v => k v
  | none => False
@[congr] theorem with_congr {α : Type} {o o' : Option α} {k : α → Prop} (h : o = o') : withO o k = withO o' k := by rw [h]
def V.opt (c : Bool) (v : V) : V := bif c then v else .tuple []
theorem opt_true (v : V) : V.opt true v = v := (rfl)
theorem opt_false (v : V) : V.opt false v = .tuple [] := (rfl)
@[congr] theorem opt_congr {c c' : Bool} {v v' : V} (h : c = c') (hv : c' = true → v = v') : V.opt c v = V.opt c' v' := by
  subst h
  cases c with
  | true => rw [hv rfl]
  | false => rfl
def V.bif (t : Bool) (a b : V) : V := bif t then a else b
theorem vif_true (a b : V) : V.bif true a b = a := (rfl)
theorem vif_false (a b : V) : V.bif false a b = b := (rfl)
theorem bif_bool (t a b : Bool) : V.bif t (.bool a) (.bool b) = .bool (bif t then a else b) := by cases t <;> rfl
theorem bif_int (t : Bool) (k : IntKind) (a b : Int) : V.bif t (.int k a) (.int k b) = .int k (if t = true then a else b) := by cases t <;> rfl
theorem bif_or (t x : Bool) : (bif t then true else x) = (t || x) := by cases t <;> rfl
theorem bif_and (t x : Bool) : (bif t then x else false) = (t && x) := by cases t <;> rfl
@[congr] theorem bif_congr {t t' : Bool} {a a' b b' : V} (h : t = t') (ha : t' = true → a = a') (hb : t' = false → b = b') : V.bif t a b = V.bif t' a' b' := by
  subst h
  cases t with
  | true => rw [V.bif, V.bif, ha rfl]; rfl
  | false => rw [V.bif, V.bif, hb rfl]; rfl
def Imp (c : Bool) (A : Prop) : Prop := c = true → A
@[congr] theorem Imp_congr {c c' : Bool} {A A' : Prop} (h : c = c') (ha : c' = true → A = A') : Imp c A = Imp c' A' := by
  subst h
  exact propext ⟨fun q e => (ha e) ▸ q e, fun q e => (ha e) ▸ q e⟩
theorem Imp_T (c : Bool) : Imp c True = True := propext ⟨fun _ => trivial, fun _ _ => trivial⟩
theorem Imp_true (A : Prop) : Imp true A = A := propext ⟨fun q => q rfl, fun q _ => q⟩
theorem Imp_false (A : Prop) : Imp false A = True := propext ⟨fun _ => trivial, fun _ e => by cases e⟩
def took (v : V) (want : Bool) : Bool :=
  match v with
  | .bool b => b == want
  | _ => false
theorem took_bool (b w : Bool) : took (.bool b) w = (b == w) := (rfl)
theorem took_tuple (vs : List V) (w : Bool) : took (.tuple vs) w = false := (rfl)
theorem took_opt (c : Bool) (v : V) (w : Bool) : took (.opt c v) w = (c && took v w) := by cases c <;> rfl
def isGate (v : V) : Prop :=
  match v with
  | .bool _ => True
  | .tuple _ => True
  | _ => False
theorem isGate_bool (b : Bool) : isGate (.bool b) = True := (rfl)
theorem isGate_tuple (vs : List V) : isGate (.tuple vs) = True := (rfl)
theorem isGate_opt (c b : Bool) : isGate (.opt c (.bool b)) = True := by cases c <;> rfl
def G.isPure : G → Bool
  | .mv _ | .pick .. | .build .. | .ld1 _ | .ldn .. | .nilck _ | .bin .. | .un .. | .fn .. | .ifc .. | .slstr .. | .sl .. | .fa .. | .fld1 .. | .fldn .. | .ia .. | .iaa .. | .ixs .. | .ix .. | .look .. | .ext .. | .mn _ | .mx _ => true
  | .cv (.int _) _ => true
  | .len .map _ => false
  | .len _ _ => true
  | _ => false
def V.onAgg {α : Type} (v : V) (d : α) (f : List V → α) : α :=
  match v with
  | .agg cs => f cs
  | _ => d
def V.onTup {α : Type} (v : V) (d : α) (f : List V → α) : α :=
  match v with
  | .tuple cs => f cs
  | _ => d
def pickB (c a b : V) : Option V :=
  match c with
  | .bool t => some (V.bif t a b)
  | _ => none
theorem pickB_bool (t : Bool) (a b : V) : pickB (.bool t) a b = some (V.bif t a b) := (rfl)
def sliceV (n : Nat) (x : V) (lo hi m3 : Option V) : Option V :=
  match x with
  | .nilslice => sliceNil lo hi m3
  | .slice b off ln cap => sliceKnown n b off ln cap lo hi m3
  | .gslice b off ln idx => sliceGrown n b off ln idx lo hi m3
  | .tslice b off off' idx => sliceTail b off off' idx lo hi m3
  | _ => none
noncomputable def G.pv (P : Program) (g : G) (r : RF) (h : Heap) : Option V :=
  match g with
  | .mv x => some (x.ev r)
  | .pick c a b => pickB (c.ev r) (a.ev r) (b.ev r)
  | .build z ps => (match fillR z (evPs r ps) with
    | some cs => some (.agg cs)
    | none => none)
  | .ld1 x => loadOne h (x.ev r)
  | .ldn n x => loadMany n h (x.ev r)
  | .nilck x => nilCheckV (x.ev r)
  | .bin k x y => k.run P (x.ev r) (y.ev r)
  | .un op x => unV op (x.ev r)
  | .cv (.int k) x => (x.ev r).onInt none fun _ n => some (.int k (k.wrap n))
  | .fn f caps => some (.func f (RX.evs r caps))
  | .ifc t x => some (.iface t (x.ev r))
  | .slstr x lo hi m3 => sliceStr (x.ev r) (RX.opt r lo) (RX.opt r hi) (RX.opt r m3)
  | .sl n x lo hi m3 => sliceV n (x.ev r) (RX.opt r lo) (RX.opt r hi) (RX.opt r m3)
  | .fa off x => (x.ev r).onPtr none fun b o => some (.ptr b (o + off))
  | .fld1 off x => (x.ev r).onAgg none fun cs => cs[off]?
  | .fldn off n x => (x.ev r).onAgg none fun cs => some (.agg ((cs.drop off).take n))
  | .ia n x i => (indexSlice n).run (x.ev r) (i.ev r)
  | .iaa n s x i => (indexArr n s).run (x.ev r) (i.ev r)
  | .ixs x i => indexStr.run (x.ev r) (i.ev r)
  | .ix t x i => (indexC P t).run (x.ev r) (i.ev r)
  | .look k z ok x i => lookupV k.eq z ok h (x.ev r) (i.ev r)
  | .ext x i => (x.ev r).onTup none fun vs => vs[i]?
  | .len (.arr n) _ => some (.int .i64 n)
  | .len .str x => (lenOne .string).run (x.ev r)
  | .len .slice x => (lenOne (.slice 0)).run (x.ev r)
  | .mn args => pickV (fun b a => !Int.leB a b) (RX.evs r args)
  | .mx args => pickV (fun b a => !Int.leB b a) (RX.evs r args)
  | _ => none
section
variable {P : Program} {r : RF} {h : Heap}
theorem pure_run {g : G} (hp : g.isPure = true) (call : CallF) : g.run P call r h = OR.of h (g.pv P r h) := by
  cases g <;> simp only [G.isPure] at hp <;> try (cases hp; done)
  all_goals simp only [G.run, G.pv]
  case mv x => rfl
  case pick c a b =>
    generalize c.ev r = q
    cases q <;> rfl
  case build z ps =>
    generalize fillR z (evPs r ps) = q
    cases q <;> rfl
  case cv k x =>
    cases k <;> simp only at hp <;> try (cases hp; done)
    simp only [CK.run]
    generalize x.ev r = q
    cases q <;> rfl
  case fn f caps => rfl
  case ifc t x => rfl
  case sl n x lo hi m3 =>
    unfold sliceV
    generalize x.ev r = q
    cases q <;> rfl
  case fld1 off x =>
    generalize x.ev r = q
    cases q <;> rfl
  case fldn off n x =>
    generalize x.ev r = q
    cases q <;> rfl
  case ext x i =>
    generalize x.ev r = q
    cases q <;> rfl
  case len k x =>
    cases k <;> simp only at hp <;> first | rfl | (cases hp; done)
theorem g_pure {g : G} (hp : g.isPure = true) {K : V → Heap → Prop} : g.wp P r h K = withO (g.pv P r h) fun v => K v h := by
  have e : g.wp P r h K = ∃ v h', g.run P nocall r h = .val v h' ∧ K v h' := by
    cases g <;> first | rfl | (simp [G.isPure] at hp; done)
  rw [e, pure_run hp]
  apply propext
  cases hv : g.pv P r h with
  | none => exact ⟨fun ⟨v, h', q, _⟩ => (by cases q), fun q => q.elim⟩
  | some v =>
    constructor
    · rintro ⟨v1, h1, q, k⟩
      simp only [OR.of, OR.val.injEq] at q
      obtain ⟨rfl, rfl⟩ := q
      exact k
    · intro k
      exact ⟨v, h, rfl, k⟩
theorem o_pure {d : Option Nat} {g : G} {rs : List Nat} {K : RF → V → Heap → Prop} (hp : g.isPure = true) : GO.wp P ⟨d, g, none, rs⟩ r h K = withO (g.pv P (r.trim rs) h) fun v => K (r.set d v) v h := by
  rw [o_plain, g_pure hp]
theorem o_gpure {d : Option Nat} {g : G} {j : Nat} {want : Bool} {rs : List Nat} {K : RF → V → Heap → Prop} (hp : g.isPure = true) : GO.wp P ⟨d, g, some (j, want), rs⟩ r h K =
    (isGate (r.trim rs j) ∧ Imp (took (r.trim rs j) want) ((g.pv P (r.trim rs) h).isSome = true) ∧
      K (r.set d (V.opt (took (r.trim rs j) want) ((g.pv P (r.trim rs) h).getD .bad))) (V.opt (took (r.trim rs j) want) ((g.pv P (r.trim rs) h).getD .bad)) h) := by
  rw [o_gate, g_pure hp]
  generalize r.trim rs j = q
  generalize g.pv P (r.trim rs) h = o
  apply propext
  cases q <;> simp only [gate, isGate, took, false_and, true_and]
  case bool b =>
    cases b <;> cases want <;> cases o <;> simp [withO, Imp, V.opt]
  case tuple vs => simp [Imp, V.opt]
@[congr] theorem wpOs_congr {os : List GO} {r r' : RF} {h h' : Heap} {K : RF → Heap → Prop} (e1 : r = r') (e2 : h = h') : wpOs P os r h K = wpOs P os r' h' K := by rw [e1, e2]
@[congr] theorem wpD_congr {os : List GO} {r r' : RF} {h h' : Heap} {K : List EntF → RF → Heap → Prop} (e1 : r = r') (e2 : h = h') : wpD P os r h K = wpD P os r' h' K := by rw [e1, e2]
@[congr] theorem GOwp_congr {o : GO} {r r' : RF} {h h' : Heap} {K : RF → V → Heap → Prop} (e1 : r = r') (e2 : h = h') : o.wp P r h K = o.wp P r' h' K := by rw [e1, e2]
@[congr] theorem Gwp_congr {g : G} {r r' : RF} {h h' : Heap} {K : V → Heap → Prop} (e1 : r = r') (e2 : h = h') : g.wp P r h K = g.wp P r' h' K := by rw [e1, e2]
@[congr] theorem wpC_congr {c : RC} {r r' : RF} {h h' : Heap} {Q : Ex → RF → Heap → Prop} (e1 : r = r') (e2 : h = h') : wpC P c r h Q = wpC P c r' h' Q := by rw [e1, e2]
@[congr] theorem Ctr_congr {f : FuncId} {a a' : List V} {h h' : Heap} {K : V → Heap → Prop} (e1 : a = a') (e2 : h = h') : Ctr P f a h K = Ctr P f a' h' K := by rw [e1, e2]
noncomputable def ld1B (k : Blk) (off : Nat) : Option V := k.see none fun n cs => bif Nat.blt off n then some (T.get .bad (pa off) cs) else none
noncomputable def ldnB (n : Nat) (k : Blk) (off : Nat) : Option V := k.see none fun m cs => bif Nat.ble (off + n) m then some (.agg (gets cs off n)) else none
theorem load1_ptr (b : Pa) (off : Nat) : loadOne h (.ptr b off) = ld1B (h.get b) off := (rfl)
theorem loadn_ptr (n : Nat) (b : Pa) (off : Nat) : loadMany n h (.ptr b off) = ldnB n (h.get b) off := (rfl)
theorem ld1_see {vs : List V} {off : Nat} : (bif Nat.blt off vs.length then some (T.get .bad (pa off) (puts .e 0 vs)) else none) = vs[off]? := by
  have := get_puts vs 0 off .e
  rw [Nat.zero_add] at this
  rw [this]
  by_cases ho : off < vs.length
  · rw [show Nat.blt off vs.length = true from by rw [Nat.blt_eq]; exact ho, if_pos ho]
    simp [List.getElem?_eq_getElem ho]
  · rw [show Nat.blt off vs.length = false from by rw [← Bool.not_eq_true, Nat.blt_eq]; exact ho]
    rw [List.getElem?_eq_none (by omega)]
    rfl
theorem ld1_ofL (vs : List V) (esz : Nat) (st : Bool) (off : Nat) : ld1B (.ofL vs esz st) off = vs[off]? := ld1_see
theorem ld1_ro (vs : List V) (off : Nat) : ld1B (.ro vs) off = vs[off]? := ld1_see
theorem ldn_see {vs : List V} {off n : Nat} : (bif Nat.ble (off + n) vs.length then some (V.agg (gets (puts .e 0 vs) off n)) else none) = if off + n ≤ vs.length then some (.agg ((vs.drop off).take n)) else none := by
  by_cases ho : off + n ≤ vs.length
  · rw [show Nat.ble (off + n) vs.length = true from by rw [Nat.ble_eq]; exact ho, if_pos ho, gets_eq vs n off ho]
    rfl
  · rw [show Nat.ble (off + n) vs.length = false from by rw [← Bool.not_eq_true, Nat.ble_eq]; exact ho, if_neg ho]
    rfl
theorem ldn_ofL (n : Nat) (vs : List V) (esz : Nat) (st : Bool) (off : Nat) : ldnB n (.ofL vs esz st) off = if off + n ≤ vs.length then some (.agg ((vs.drop off).take n)) else none := ldn_see
theorem ldn_ro (n : Nat) (vs : List V) (off : Nat) : ldnB n (.ro vs) off = if off + n ≤ vs.length then some (.agg ((vs.drop off).take n)) else none := ldn_see
theorem Rd.ld1 {b : Pa} {vs : List V} (H : Rd h b vs) (off : Nat) : ld1B (h.get b) off = vs[off]? := by
  rcases H with H | ⟨_, _, H⟩ <;> rw [H]
  · exact ld1_ro vs off
  · exact ld1_ofL vs _ _ off
theorem Rd.ldn {b : Pa} {vs : List V} (H : Rd h b vs) (n off : Nat) : ldnB n (h.get b) off = if off + n ≤ vs.length then some (.agg ((vs.drop off).take n)) else none := by
  rcases H with H | ⟨_, _, H⟩ <;> rw [H]
  · exact ldn_ro n vs off
  · exact ldn_ofL n vs _ _ off
def over : List V → List V → List V
  | vs, [] => vs
  | [], _ :: _ => []
  | _ :: vs, w :: ws => w :: over vs ws
def spl : List V → Nat → List V → List V
  | vs, 0, ws => over vs ws
  | [], _ + 1, _ => []
  | v :: vs, n + 1, ws => v :: spl vs n ws
theorem over_eq : ∀ (vs ws : List V), ws.length ≤ vs.length → over vs ws = ws ++ vs.drop ws.length
  | vs, [], _ => by cases vs <;> rfl
  | [], _ :: _, h => by simp at h
  | v :: vs, w :: ws, h => by
    simp only [over, List.cons_append, List.length_cons, List.drop_succ_cons]
    rw [over_eq vs ws (by simpa using h)]
theorem spl_eq : ∀ (vs : List V) (off : Nat) (ws : List V), off + ws.length ≤ vs.length → spl vs off ws = splice vs off ws
  | vs, 0, ws, h => by
    cases vs <;> simp only [spl, splice, List.take_zero, List.nil_append, Nat.zero_add] <;> exact over_eq _ ws (by omega)
  | [], n + 1, ws, h => by simp at h
  | v :: vs, n + 1, ws, h => by
    simp only [List.length_cons] at h
    simp only [spl, splice]
    rw [spl_eq vs n ws (by omega)]
    simp only [splice, List.take_succ_cons, List.cons_append]
    rw [show n + 1 + ws.length = n + ws.length + 1 from by omega, List.drop_succ_cons]
theorem spl_length (vs : List V) (off : Nat) (ws : List V) (h : off + ws.length ≤ vs.length) : (spl vs off ws).length = vs.length := by
  rw [spl_eq vs off ws h, splice_length vs off ws h]
noncomputable def layB (n : Nat) (h : Heap) (b : Pa) (off : Nat) (y : V) (k : Blk) : Option Heap :=
  bif Nat.beq y.cells.length n then k.on none fun m cs esz st =>
    bif Nat.ble (off + y.cells.length) m && ones y.cells then some (h.set b (.cells m (puts cs off y.cells) esz st)) else none else none
theorem store_ptr (n : Nat) (b : Pa) (off : Nat) (y : V) : storeV n h (.ptr b off) y = layB n h b off y (h.get b) := (rfl)
theorem lay_ofL {n : Nat} {b : Pa} {off : Nat} {y : V} {vs : List V} {esz : Nat} {st : Bool} (h1 : y.cells.length = n) (h2 : ones y.cells = true) (h3 : off + n ≤ vs.length) :
    layB n h b off y (.ofL vs esz st) = some (h.set b (.ofL (spl vs off y.cells) esz st)) := by
  unfold layB
  rw [show Nat.beq y.cells.length n = true from by rw [Nat.beq_eq]; exact h1]
  simp only [cond_true, Blk.ofL, Blk.on]
  rw [show Nat.ble (off + y.cells.length) vs.length = true from by rw [Nat.ble_eq, h1]; exact h3, h2]
  simp only [Bool.and_true, cond_true, Option.some.injEq]
  rw [spl_length vs off _ (by rw [h1]; exact h3), spl_eq vs off _ (by rw [h1]; exact h3), puts_splice _ vs off (by rw [h1]; exact h3)]
theorem get_new_self (k : Blk) : (h.new k).get (pa h.next) = k := by rw [Heap.get_new, if_pos rfl]
theorem get_new (b : Pa) (k : Blk) : (h.new k).get b = if pa h.next = b then k else h.get b := Heap.get_new h b k
theorem get_set (b b' : Pa) (k : Blk) : (h.set b k).get b' = if b = b' then k else h.get b' := Heap.get_set h b b' k
def Old (h : Heap) (b : Pa) : Prop := unPa b < h.next
theorem pa_unPa : ∀ b : Pa, pa (unPa b) = b := by
  have key : ∀ (b : Pa) (d : Nat), unPa b + 1 < 2 ^ d → paF d (unPa b) = b := by
    intro b
    induction b with
    | z => intro d hd; cases d <;> rfl
    | l p ih =>
      intro d hd
      cases d with
      | zero => simp [unPa] at hd
      | succ d =>
        have h2 : 2 ^ (d + 1) = 2 * 2 ^ d := by rw [Nat.pow_succ]; omega
        rw [h2] at hd
        simp only [unPa] at hd ⊢
        simp only [paF, cond_beq]
        rw [if_neg (by omega), if_pos (by omega), show (2 * unPa p + 1) / 2 = unPa p from by omega, ih d (by omega)]
    | r p ih =>
      intro d hd
      cases d with
      | zero => simp [unPa] at hd
      | succ d =>
        have h2 : 2 ^ (d + 1) = 2 * 2 ^ d := by rw [Nat.pow_succ]; omega
        rw [h2] at hd
        simp only [unPa] at hd ⊢
        simp only [paF, cond_beq]
        rw [if_neg (by omega), if_neg (by omega), show (2 * unPa p + 2) / 2 - 1 = unPa p from by omega, ih d (by omega)]
  intro b
  exact key b _ Nat.lt_log2_self
theorem old_ne {b : Pa} {i : Nat} (hb : Old h b) (hi : h.next ≤ i) : (pa i = b) = False := by
  apply propext
  constructor
  · intro e
    unfold Old at hb
    rw [← e, unPa_pa] at hb
    omega
  · exact False.elim
theorem old_self {k : Blk} : Old (h.new k) (pa h.next) := by unfold Old; rw [unPa_pa]; exact Nat.lt_succ_self _
def faV (off : Nat) (x : V) : Option V := x.onPtr none fun b o => some (.ptr b (o + off))
theorem fa_ptr (off : Nat) (b : Pa) (o : Nat) : faV off (.ptr b o) = some (.ptr b (o + off)) := (rfl)
theorem on_tup {α : Type} (vs : List V) (d : α) (f : List V → α) : V.onTup (.tuple vs) d f = f vs := (rfl)
theorem on_agg {α : Type} (vs : List V) (d : α) (f : List V → α) : V.onAgg (.agg vs) d f = f vs := (rfl)
def lenSl (x : V) : Option V := (lenOne (.slice 0)).run x
theorem lens_sl (b : Pa) (off n c : Nat) : lenSl (.slice b off n c) = some (.int .i64 n) := (rfl)
theorem lens_g (b : Pa) (off n c : Nat) : lenSl (.gslice b off n c) = some (.int .i64 n) := (rfl)
theorem lens_t (b : Pa) (off n c : Nat) : lenSl (.tslice b off n c) = some (.int .i64 0) := (rfl)
theorem lens_nil : lenSl .nilslice = some (.int .i64 0) := (rfl)
def lenSt (x : V) : Option V := (lenOne .string).run x
theorem lenst_str (s : List UInt8) : lenSt (.str s) = some (.int .i64 s.length) := (rfl)
def iaV (n : Nat) (x i : V) : Option V := (indexSlice n).run x i
theorem ia_sl (n : Nat) (b : Pa) (off len cap : Nat) (k : IntKind) (i : Int) : iaV n (.slice b off len cap) (.int k i) = if 0 ≤ i ∧ i < len then some (.ptr b (off + i.toNat * n)) else none := by
  simp only [iaV, indexSlice, V.onInt, inRange, leB_dec]
  by_cases h1 : 0 ≤ i <;> by_cases h2 : (len : Int) ≤ i <;> simp [h1, h2] <;> omega
theorem ia_g (n : Nat) (b : Pa) (off len cap : Nat) (k : IntKind) (i : Int) : iaV n (.gslice b off len cap) (.int k i) = if 0 ≤ i ∧ i < len then some (.ptr b (off + i.toNat * n)) else none := by
  simp only [iaV, indexSlice, V.onInt, inRange, leB_dec]
  by_cases h1 : 0 ≤ i <;> by_cases h2 : (len : Int) ≤ i <;> simp [h1, h2] <;> omega
def cvI (k : IntKind) (x : V) : Option V := x.onInt none fun _ n => some (.int k (k.wrap n))
theorem cvi_int (k k' : IntKind) (n : Int) : cvI k (.int k' n) = some (.int k (k.wrap n)) := (rfl)
end
end Go.Proofs.YtjbiefneffiogaaGreat.Am

namespace Go.Proofs.YtjbiefneffiogaaGreat.Am
variable [Lay]
open Go Go.RowKit
structure DS where
  all : List GO
  asks : List (Nat × List Nat)
  es : List EntF
def pushD (D : Option DS) (r : RF) (h : Heap) (v : V) : Option DS :=
  match D with
  | none => none
  | some d => some ⟨d.all, d.asks, d.es ++ [⟨r, h, v⟩]⟩
inductive KS where
  | os (D : Option DS) (os : List GO)
  | c (b : RC)
  | blk (id : Nat)
section
variable (P : Program)
noncomputable def asksD (D : Option DS) (es : List EntF) (hf : Heap) : Prop :=
  match D with
  | none => True
  | some d => asksP P d.all (d.es ++ es) hf d.asks
noncomputable def wpK : List KS → Ex → RF → Heap → (Ex → RF → Heap → Prop) → Prop
  | [], e, r, h, Q => Q e r h
  | .os D os :: ks, e, r, h, Q => match e with
    | .normal => wpD P os r h fun es r' h' => asksD P D es h' ∧ wpK ks .normal r' h' Q
    | e => wpK ks e r h Q
  | .c b :: ks, e, r, h, Q => match e with
    | .normal => wpC P b r h fun e r' h' => wpK ks e r' h' Q
    | e => wpK ks e r h Q
  | .blk id :: ks, e, r, h, Q => wpK ks (e.leave id) r h Q
noncomputable def stepV (o : Option V) (d : Option Nat) (D : Option DS) (os : List GO) (ks : List KS) (r : RF) (h : Heap) (Q : Ex → RF → Heap → Prop) : Prop :=
  withO o fun v => wpK P (.os (pushD D r h v) os :: ks) .normal (r.set d v) h Q
noncomputable def stepO (o : OR) (d : Option Nat) (D : Option DS) (os : List GO) (ks : List KS) (r : RF) (h0 : Heap) (Q : Ex → RF → Heap → Prop) : Prop :=
  match o with
  | .val v h => wpK P (.os (pushD D r h0 v) os :: ks) .normal (r.set d v) h Q
  | .fail => False
noncomputable def gateK (v : V) (want : Bool) (d : Option Nat) (g : G) (rs : List Nat) (D : Option DS) (os : List GO) (ks : List KS) (r : RF) (h : Heap) (Q : Ex → RF → Heap → Prop) : Prop :=
  gate v want (wpK P (.os D (⟨d, g, none, rs⟩ :: os) :: ks) .normal r h Q) (wpK P (.os (pushD D r h (.tuple [])) os :: ks) .normal (r.set d (.tuple [])) h Q)
noncomputable def condK (v : V) (a b : RC) (ks : List KS) (r : RF) (h : Heap) (Q : Ex → RF → Heap → Prop) : Prop :=
  match v with
  | .bool t => (t = true → wpK P (.c a :: ks) .normal r h Q) ∧ (t = false → wpK P (.c b :: ks) .normal r h Q)
  | _ => False
noncomputable def callK (f : FuncId) (args : List V) (d : Option Nat) (D : Option DS) (os : List GO) (ks : List KS) (r : RF) (h : Heap) (Q : Ex → RF → Heap → Prop) : Prop :=
  Ctr P f args h fun v h' => wpK P (.os (pushD D r h v) os :: ks) .normal (r.set d v) h' Q
noncomputable def callvK (f : V) (args : List V) (d : Option Nat) (D : Option DS) (os : List GO) (ks : List KS) (r : RF) (h : Heap) (Q : Ex → RF → Heap → Prop) : Prop :=
  ∃ g cs, f = .func g cs ∧ callK P g (args ++ cs) d D os ks r h Q
noncomputable def loopK (b : RC) (ks : List KS) (r : RF) (h : Heap) (Q : Ex → RF → Heap → Prop) : Prop := wpC P (.loop b) r h fun e r' h' => wpK P ks e r' h' Q
end
section
variable {P : Program} {r : RF} {h : Heap} {Q : Ex → RF → Heap → Prop} {ks : List KS} {os : List GO} {D : Option DS}
theorem pushD_none (r : RF) (h : Heap) (v : V) : pushD none r h v = none := (rfl)
theorem pushD_some (all : List GO) (asks : List (Nat × List Nat)) (es : List EntF) (r : RF) (h : Heap) (v : V) : pushD (some ⟨all, asks, es⟩) r h v = some ⟨all, asks, es ++ [⟨r, h, v⟩]⟩ := (rfl)
theorem wpK_of {c : RC} (H : wpK P [.c c] .normal r h Q) : wpC P c r h Q := H
theorem k_nil {e : Ex} : wpK P [] e r h Q = Q e r h := (rfl)
theorem k_blk {e : Ex} {id : Nat} : wpK P (.blk id :: ks) e r h Q = wpK P ks (e.leave id) r h Q := (rfl)
theorem k_seq {a b : RC} : wpK P (.c (.seq a b) :: ks) .normal r h Q = wpK P (.c a :: .c b :: ks) .normal r h Q := by
  simp only [wpK]
  rw [c_seq]
  congr 1
  funext e r' h'
  cases e <;> rfl
theorem k_block {id : Nat} {b : RC} : wpK P (.c (.block id b) :: ks) .normal r h Q = wpK P (.c b :: .blk id :: ks) .normal r h Q := (rfl)
theorem wpD_os : ∀ (os : List GO) (r : RF) (h : Heap) (K : RF → Heap → Prop), wpD P os r h (fun _ r h => K r h) = wpOs P os r h K
  | [], _, _, _ => rfl
  | o :: os, r, h, K => by
    simp only [wpD, wpOs]
    congr 1
    funext r' v h'
    exact wpD_os os r' h' K
theorem k_reg {ops : List GO} : wpK P (.c (.reg ops) :: ks) .normal r h Q = wpK P (.os none ops :: ks) .normal r h Q := by
  simp only [wpK, asksD, true_and]
  rw [wpD_os, c_reg]
theorem k_skip : wpK P (.c .skip :: ks) .normal r h Q = wpK P ks .normal r h Q := (rfl)
theorem k_ret : wpK P (.c .ret :: ks) .normal r h Q = wpK P ks .ret r h Q := (rfl)
theorem k_exit {i : Nat} : wpK P (.c (.exit i) :: ks) .normal r h Q = wpK P ks (.exit i) r h Q := (rfl)
theorem k_cret {b : RC} : wpK P (.c b :: ks) .ret r h Q = wpK P ks .ret r h Q := (rfl)
theorem k_cexit {b : RC} {i : Nat} : wpK P (.c b :: ks) (.exit i) r h Q = wpK P ks (.exit i) r h Q := (rfl)
theorem k_cond {c : RX} {a b : RC} : wpK P (.c (.cond c a b) :: ks) .normal r h Q = condK P (c.ev r) a b ks r h Q := by
  simp only [wpK, wpC]
  cases c.ev r <;> rfl
theorem k_loop {b : RC} : wpK P (.c (.loop b) :: ks) .normal r h Q = loopK P b ks r h Q := (rfl)
theorem k_draw {ops : List GO} {asks : List (Nat × List Nat)} : wpK P (.c (.draw ops asks) :: ks) .normal r h Q = wpK P (.os (some ⟨ops, asks, []⟩) ops :: ks) .normal r h Q := (rfl)
theorem k_osnil : wpK P (.os none [] :: ks) .normal r h Q = wpK P ks .normal r h Q := by
  simp only [wpK, wpD, asksD, true_and]
theorem k_dnil {all : List GO} {asks : List (Nat × List Nat)} {es : List EntF} : wpK P (.os (some ⟨all, asks, es⟩) [] :: ks) .normal r h Q = (asksP P all es h asks ∧ wpK P ks .normal r h Q) := by
  simp only [wpK, wpD, asksD, List.append_nil]
theorem asksD_push (D : Option DS) (r : RF) (h : Heap) (v : V) (es : List EntF) (hf : Heap) : asksD P (pushD D r h v) es hf = asksD P D (⟨r, h, v⟩ :: es) hf := by
  cases D with
  | none => rfl
  | some d => simp only [pushD, asksD, List.append_assoc, List.cons_append, List.nil_append]
theorem k_pure {d : Option Nat} {g : G} {rs : List Nat} (hp : g.isPure = true) : wpK P (.os D (⟨d, g, none, rs⟩ :: os) :: ks) .normal r h Q = stepV P (g.pv P (r.trim rs) h) d D os ks r h Q := by
  simp only [wpK, wpD, stepV]
  rw [o_pure hp]
  simp only [asksD_push]
theorem k_gpure {d : Option Nat} {g : G} {j : Nat} {want : Bool} {rs : List Nat} (hp : g.isPure = true) : wpK P (.os D (⟨d, g, some (j, want), rs⟩ :: os) :: ks) .normal r h Q =
    (isGate (r.trim rs j) ∧ Imp (took (r.trim rs j) want) ((g.pv P (r.trim rs) h).isSome = true) ∧
      stepV P (some (V.opt (took (r.trim rs j) want) ((g.pv P (r.trim rs) h).getD .bad))) d D os ks r h Q) := by
  simp only [wpK, wpD, stepV, withO]
  rw [o_gpure hp]
  simp only [asksD_push]
def G.isCall : G → Bool
  | .call .. | .callv .. => true
  | _ => false
theorem k_run {d : Option Nat} {g : G} {rs : List Nat} (hp : g.isPure = false) (hc : g.isCall = false) : wpK P (.os D (⟨d, g, none, rs⟩ :: os) :: ks) .normal r h Q = stepO P (g.run P nocall (r.trim rs) h) d D os ks r h Q := by
  simp only [wpK, wpD]
  rw [o_plain]
  have e : ∀ K : V → Heap → Prop, g.wp P (r.trim rs) h K = ∃ v h', g.run P nocall (r.trim rs) h = .val v h' ∧ K v h' := by
    intro K
    cases g <;> first | rfl | (simp [G.isCall] at hc; done)
  rw [e]
  unfold stepO
  simp only [wpK, asksD_push]
  cases g.run P nocall (r.trim rs) h with
  | fail => exact propext ⟨fun ⟨v, h', q, _⟩ => (by cases q), fun q => q.elim⟩
  | val v1 h1 =>
    apply propext
    constructor
    · rintro ⟨v, h', q, k⟩
      simp only [OR.val.injEq] at q
      obtain ⟨rfl, rfl⟩ := q
      exact k
    · intro k
      exact ⟨_, _, rfl, k⟩
theorem k_gate {d : Option Nat} {g : G} {j : Nat} {want : Bool} {rs : List Nat} (hp : g.isPure = false) : wpK P (.os D (⟨d, g, some (j, want), rs⟩ :: os) :: ks) .normal r h Q = gateK P (r.trim rs j) want d g rs D os ks r h Q := by
  simp only [gateK, wpK, wpD, asksD_push]
  rw [o_gate]
  rfl
theorem k_call {d : Option Nat} {f : FuncId} {args : List RX} {rs : List Nat} : wpK P (.os D (⟨d, .call f args, none, rs⟩ :: os) :: ks) .normal r h Q = callK P f (RX.evs (r.trim rs) args) d D os ks r h Q := by
  simp only [callK, wpK, wpD, asksD_push]
  rfl
theorem k_callv {d : Option Nat} {f : RX} {args : List RX} {rs : List Nat} : wpK P (.os D (⟨d, .callv f args, none, rs⟩ :: os) :: ks) .normal r h Q = callvK P (f.ev (r.trim rs)) (RX.evs (r.trim rs) args) d D os ks r h Q := by
  simp only [callvK, callK, wpK, wpD, asksD_push]
  rfl
theorem callv_func {g : FuncId} {cs args : List V} {d : Option Nat} : callvK P (.func g cs) args d D os ks r h Q = callK P g (args ++ cs) d D os ks r h Q := by
  apply propext
  constructor
  · rintro ⟨g', cs', q, k⟩
    simp only [V.func.injEq] at q
    obtain ⟨rfl, rfl⟩ := q
    exact k
  · intro k
    exact ⟨_, _, rfl, k⟩
@[congr] theorem stepV_congr {o o' : Option V} {d : Option Nat} (e : o = o') : stepV P o d D os ks r h Q = stepV P o' d D os ks r h Q := by rw [e]
@[congr] theorem stepO_congr {o o' : OR} {d : Option Nat} (e : o = o') : stepO P o d D os ks r h Q = stepO P o' d D os ks r h Q := by rw [e]
@[congr] theorem condK_congr {v v' : V} {a b : RC} (e : v = v') : condK P v a b ks r h Q = condK P v' a b ks r h Q := by rw [e]
@[congr] theorem gateK_congr {v v' : V} {want : Bool} {d : Option Nat} {g : G} {rs : List Nat} (e : v = v') : gateK P v want d g rs D os ks r h Q = gateK P v' want d g rs D os ks r h Q := by rw [e]
@[congr] theorem callvK_congr {f f' : V} {args args' : List V} {d : Option Nat} (e1 : f = f') (e2 : args = args') : callvK P f args d D os ks r h Q = callvK P f' args' d D os ks r h Q := by rw [e1, e2]
@[congr] theorem callK_congr {f : FuncId} {args args' : List V} {d : Option Nat} (e2 : args = args') : callK P f args d D os ks r h Q = callK P f args' d D os ks r h Q := by rw [e2]
@[congr] theorem wpK_congr {e e' : Ex} {r' : RF} {h' : Heap} (e0 : e = e') (e1 : r = r') (e2 : h = h') : wpK P ks e r h Q = wpK P ks e' r' h' Q := by rw [e0, e1, e2]
@[congr] theorem loopK_congr {b : RC} {r' : RF} {h' : Heap} (e1 : r = r') (e2 : h = h') : loopK P b ks r h Q = loopK P b ks r' h' Q := by rw [e1, e2]
theorem sv_some {v : V} {d : Option Nat} : stepV P (some v) d D os ks r h Q = wpK P (.os (pushD D r h v) os :: ks) .normal (r.set d v) h Q := (rfl)
theorem so_val {v : V} {h' : Heap} {d : Option Nat} : stepO P (.val v h') d D os ks r h Q = wpK P (.os (pushD D r h v) os :: ks) .normal (r.set d v) h' Q := (rfl)
theorem condK_bool {t : Bool} {a b : RC} : condK P (.bool t) a b ks r h Q = ((t = true → wpK P (.c a :: ks) .normal r h Q) ∧ (t = false → wpK P (.c b :: ks) .normal r h Q)) := (rfl)
theorem gateK_t {b : Bool} {d : Option Nat} {g : G} {rs : List Nat} : gateK P (.bool b) true d g rs D os ks r h Q = ((b = true → wpK P (.os D (⟨d, g, none, rs⟩ :: os) :: ks) .normal r h Q) ∧ (b = false → wpK P (.os (pushD D r h (.tuple [])) os :: ks) .normal (r.set d (.tuple [])) h Q)) := (rfl)
theorem gateK_f {b : Bool} {d : Option Nat} {g : G} {rs : List Nat} : gateK P (.bool b) false d g rs D os ks r h Q = ((b = false → wpK P (.os D (⟨d, g, none, rs⟩ :: os) :: ks) .normal r h Q) ∧ (b = true → wpK P (.os (pushD D r h (.tuple [])) os :: ks) .normal (r.set d (.tuple [])) h Q)) := (rfl)
theorem gateK_tuple {vs : List V} {want : Bool} {d : Option Nat} {g : G} {rs : List Nat} : gateK P (.tuple vs) want d g rs D os ks r h Q = wpK P (.os (pushD D r h (.tuple [])) os :: ks) .normal (r.set d (.tuple [])) h Q := (rfl)
def orH (v : V) (o : Option Heap) : OR := orHeap v o
theorem orH_some (v : V) (h' : Heap) : orH v (some h') = .val v h' := (rfl)
def boxO (b : Bool) (o : OR) : OR := bif b then o else .fail
theorem boxO_true (o : OR) : boxO true o = o := (rfl)
noncomputable def bslO (n : Nat) (h : Heap) (o : Option (List V)) : OR :=
  match o with
  | some cs => orH (.slice (pa h.next) 0 n n) (newCells h cs)
  | none => .fail
theorem bslO_some (n : Nat) (cs : List V) : bslO n h (some cs) = orH (.slice (pa h.next) 0 n n) (newCells h cs) := (rfl)
theorem run_bsl {n size : Nat} {z : List V} {ps : List (Nat × Nat × RX)} : (G.bsl n size z ps).run P nocall r h = bslO n h (fillR (repeatV z n) (evPs r ps)) := by
  simp only [G.run]
  cases fillR (repeatV z n) (evPs r ps) with
  | none => rfl
  | some cs =>
    simp only [bslO, orH, orHeap]
    cases newCells h cs <;> rfl
theorem fill_nil (cells : List V) : fillR cells [] = some cells := (rfl)
theorem fill_cons {cells : List V} {off size : Nat} {v : V} {rest : List (Nat × Nat × V)} (h1 : v.good = true) (h2 : v.cells.length = size) (h3 : off + size ≤ cells.length) :
    fillR cells ((off, size, v) :: rest) = fillR (spl cells off v.cells) rest := by
  simp only [fillR]
  rw [h1, show Nat.beq v.cells.length size = true from by rw [Nat.beq_eq]; exact h2, show Nat.ble (off + v.cells.length) cells.length = true from by rw [Nat.ble_eq, h2]; exact h3]
  simp only [Bool.and_true, cond_true]
  congr 1
  have fa : ∀ (ws cs : List V) (o : Nat), o + ws.length ≤ cs.length → fillAt cs o ws = splice cs o ws := by
    intro ws
    induction ws with
    | nil => intro cs o _; simp [fillAt, splice]
    | cons w ws ih =>
      intro cs o ho
      simp only [List.length_cons] at ho
      simp only [fillAt]
      rw [ih (cs.set o w) (o + 1) (by simp; omega), set_splice cs o w ws (by omega)]
  rw [fa _ _ _ (by rw [h2]; exact h3), spl_eq _ _ _ (by rw [h2]; exact h3)]
def buildO (o : Option (List V)) : Option V :=
  match o with
  | some cs => some (.agg cs)
  | none => none
theorem buildO_some (cs : List V) : buildO (some cs) = some (.agg cs) := (rfl)
theorem evPs_nil : evPs r [] = [] := (rfl)
theorem evPs_cons {o s : Nat} {x : RX} {ps : List (Nat × Nat × RX)} : evPs r ((o, s, x) :: ps) = (o, s, x.ev r) :: evPs r ps := (rfl)
noncomputable def askK (P : Program) (o : GO) (e : EntF) (H : Heap) : Prop := o.wp P e.r H fun _ v' _ => v' = e.v
theorem asks_nil {ops : List GO} {es : List EntF} {hf : Heap} : asksP P ops es hf [] = True := (rfl)
theorem asks_cons {ops : List GO} {es : List EntF} {hf : Heap} {p : Nat} {ss : List Nat} {rest : List (Nat × List Nat)} : asksP P ops es hf ((p, ss) :: rest) = (askP P ops[p]? es[p]? es hf ss ∧ asksP P ops es hf rest) := (rfl)
theorem ask_nil {o : Option GO} {e : Option EntF} {es : List EntF} {hf : Heap} : askP P o e es hf [] = True := (rfl)
theorem ask_cons {o : GO} {e : EntF} {es : List EntF} {hf : Heap} {s : Nat} {ss : List Nat} : askP P (some o) (some e) es hf (s :: ss) = (askK P o e (heapF es hf s) ∧ askP P (some o) (some e) es hf ss) := (rfl)
def heapO (o : Option EntF) (hf : Heap) : Heap :=
  match o with
  | some e => e.h
  | none => hf
theorem heapF_o (es : List EntF) (hf : Heap) (s : Nat) : heapF es hf s = heapO es[s]? hf := (rfl)
theorem heapO_some (e : EntF) (hf : Heap) : heapO (some e) hf = e.h := (rfl)
theorem heapO_none (hf : Heap) : heapO none hf = hf := (rfl)
theorem ask_pure {d : Option Nat} {g : G} {rs : List Nat} {e : EntF} {H : Heap} (hp : g.isPure = true) : askK P ⟨d, g, none, rs⟩ e H = (g.pv P (e.r.trim rs) H = some e.v) := by
  unfold askK
  rw [o_pure hp]
  apply propext
  cases g.pv P (e.r.trim rs) H with
  | none => exact ⟨fun q => q.elim, fun q => (by cases q)⟩
  | some v => exact ⟨fun q => by rw [show v = e.v from q], fun q => by cases q; rfl⟩
theorem ask_gpure {d : Option Nat} {g : G} {j : Nat} {want : Bool} {rs : List Nat} {e : EntF} {H : Heap} (hp : g.isPure = true) : askK P ⟨d, g, some (j, want), rs⟩ e H =
    (isGate (e.r.trim rs j) ∧ Imp (took (e.r.trim rs j) want) ((g.pv P (e.r.trim rs) H).isSome = true) ∧ V.opt (took (e.r.trim rs j) want) ((g.pv P (e.r.trim rs) H).getD .bad) = e.v) := by
  unfold askK
  rw [o_gpure hp]
theorem ask_ld1 {d : Option Nat} {x : RX} {rs : List Nat} {e : EntF} {H : Heap} : askK P ⟨d, .ld1 x, none, rs⟩ e H = (loadOne H (x.ev (e.r.trim rs)) = some e.v) := ask_pure rfl
theorem ask_ldn {d : Option Nat} {n : Nat} {x : RX} {rs : List Nat} {e : EntF} {H : Heap} : askK P ⟨d, .ldn n x, none, rs⟩ e H = (loadMany n H (x.ev (e.r.trim rs)) = some e.v) := ask_pure rfl
theorem ask_look {d : Option Nat} {k : KK} {z : V} {ok : Bool} {x i : RX} {rs : List Nat} {e : EntF} {H : Heap} : askK P ⟨d, .look k z ok x i, none, rs⟩ e H = (lookupV k.eq z ok H (x.ev (e.r.trim rs)) (i.ev (e.r.trim rs)) = some e.v) := ask_pure rfl
theorem askg_ld1 {d : Option Nat} {x : RX} {j : Nat} {want : Bool} {rs : List Nat} {e : EntF} {H : Heap} : askK P ⟨d, .ld1 x, some (j, want), rs⟩ e H =
    (isGate (e.r.trim rs j) ∧ Imp (took (e.r.trim rs j) want) ((loadOne H (x.ev (e.r.trim rs))).isSome = true) ∧ V.opt (took (e.r.trim rs j) want) ((loadOne H (x.ev (e.r.trim rs))).getD .bad) = e.v) := ask_gpure rfl
theorem askg_ldn {d : Option Nat} {n : Nat} {x : RX} {j : Nat} {want : Bool} {rs : List Nat} {e : EntF} {H : Heap} : askK P ⟨d, .ldn n x, some (j, want), rs⟩ e H =
    (isGate (e.r.trim rs j) ∧ Imp (took (e.r.trim rs j) want) ((loadMany n H (x.ev (e.r.trim rs))).isSome = true) ∧ V.opt (took (e.r.trim rs j) want) ((loadMany n H (x.ev (e.r.trim rs))).getD .bad) = e.v) := ask_gpure rfl
end
end Go.Proofs.YtjbiefneffiogaaGreat.Am

namespace Go.Proofs.YtjbiefneffiogaaGreat.Am
variable [Lay]
open Go Go.RowKit
noncomputable def rngO (x : V) (h : Heap) : OR :=
  match x with
  | .str s => .val (.ptr (pa h.next) 0) (h.new (.iter s 0))
  | _ => .fail
theorem rngO_str (s : List UInt8) (h : Heap) : rngO (.str s) h = .val (.ptr (pa h.next) 0) (h.new (.iter s 0)) := (rfl)
section
variable {P : Program} {r : RF} {h : Heap} {Q : Ex → RF → Heap → Prop} {ks : List KS} {os : List GO} {D : Option DS} {d : Option Nat} {rs : List Nat}
theorem k_mv {x : RX} : wpK P (.os D (⟨d, (.mv x), none, rs⟩ :: os) :: ks) .normal r h Q = stepV P (some (x.ev (r.trim rs))) d D os ks r h Q := k_pure rfl
theorem kg_mv {x : RX} {j : Nat} {want : Bool} : wpK P (.os D (⟨d, (.mv x), some (j, want), rs⟩ :: os) :: ks) .normal r h Q = (isGate (r.trim rs j) ∧ Imp (took (r.trim rs j) want) ((some (x.ev (r.trim rs))).isSome = true) ∧ stepV P (some (V.opt (took (r.trim rs j) want) ((some (x.ev (r.trim rs))).getD .bad))) d D os ks r h Q) := k_gpure rfl
theorem k_pick {c a b : RX} : wpK P (.os D (⟨d, (.pick c a b), none, rs⟩ :: os) :: ks) .normal r h Q = stepV P (pickB (c.ev (r.trim rs)) (a.ev (r.trim rs)) (b.ev (r.trim rs))) d D os ks r h Q := k_pure rfl
theorem kg_pick {c a b : RX} {j : Nat} {want : Bool} : wpK P (.os D (⟨d, (.pick c a b), some (j, want), rs⟩ :: os) :: ks) .normal r h Q = (isGate (r.trim rs j) ∧ Imp (took (r.trim rs j) want) ((pickB (c.ev (r.trim rs)) (a.ev (r.trim rs)) (b.ev (r.trim rs))).isSome = true) ∧ stepV P (some (V.opt (took (r.trim rs j) want) ((pickB (c.ev (r.trim rs)) (a.ev (r.trim rs)) (b.ev (r.trim rs))).getD .bad))) d D os ks r h Q) := k_gpure rfl
theorem k_build {z : List V} {ps : List (Nat × Nat × RX)} : wpK P (.os D (⟨d, (.build z ps), none, rs⟩ :: os) :: ks) .normal r h Q = stepV P (buildO (fillR z (evPs (r.trim rs) ps))) d D os ks r h Q := k_pure rfl
theorem kg_build {z : List V} {ps : List (Nat × Nat × RX)} {j : Nat} {want : Bool} : wpK P (.os D (⟨d, (.build z ps), some (j, want), rs⟩ :: os) :: ks) .normal r h Q = (isGate (r.trim rs j) ∧ Imp (took (r.trim rs j) want) ((buildO (fillR z (evPs (r.trim rs) ps))).isSome = true) ∧ stepV P (some (V.opt (took (r.trim rs j) want) ((buildO (fillR z (evPs (r.trim rs) ps))).getD .bad))) d D os ks r h Q) := k_gpure rfl
theorem k_ld1 {x : RX} : wpK P (.os D (⟨d, (.ld1 x), none, rs⟩ :: os) :: ks) .normal r h Q = stepV P (loadOne h (x.ev (r.trim rs))) d D os ks r h Q := k_pure rfl
theorem kg_ld1 {x : RX} {j : Nat} {want : Bool} : wpK P (.os D (⟨d, (.ld1 x), some (j, want), rs⟩ :: os) :: ks) .normal r h Q = (isGate (r.trim rs j) ∧ Imp (took (r.trim rs j) want) ((loadOne h (x.ev (r.trim rs))).isSome = true) ∧ stepV P (some (V.opt (took (r.trim rs j) want) ((loadOne h (x.ev (r.trim rs))).getD .bad))) d D os ks r h Q) := k_gpure rfl
theorem k_ldn {n : Nat} {x : RX} : wpK P (.os D (⟨d, (.ldn n x), none, rs⟩ :: os) :: ks) .normal r h Q = stepV P (loadMany n h (x.ev (r.trim rs))) d D os ks r h Q := k_pure rfl
theorem kg_ldn {n : Nat} {x : RX} {j : Nat} {want : Bool} : wpK P (.os D (⟨d, (.ldn n x), some (j, want), rs⟩ :: os) :: ks) .normal r h Q = (isGate (r.trim rs j) ∧ Imp (took (r.trim rs j) want) ((loadMany n h (x.ev (r.trim rs))).isSome = true) ∧ stepV P (some (V.opt (took (r.trim rs j) want) ((loadMany n h (x.ev (r.trim rs))).getD .bad))) d D os ks r h Q) := k_gpure rfl
theorem k_nilck {x : RX} : wpK P (.os D (⟨d, (.nilck x), none, rs⟩ :: os) :: ks) .normal r h Q = stepV P (nilCheckV (x.ev (r.trim rs))) d D os ks r h Q := k_pure rfl
theorem kg_nilck {x : RX} {j : Nat} {want : Bool} : wpK P (.os D (⟨d, (.nilck x), some (j, want), rs⟩ :: os) :: ks) .normal r h Q = (isGate (r.trim rs j) ∧ Imp (took (r.trim rs j) want) ((nilCheckV (x.ev (r.trim rs))).isSome = true) ∧ stepV P (some (V.opt (took (r.trim rs j) want) ((nilCheckV (x.ev (r.trim rs))).getD .bad))) d D os ks r h Q) := k_gpure rfl
theorem k_bin {k : BK} {x y : RX} : wpK P (.os D (⟨d, (.bin k x y), none, rs⟩ :: os) :: ks) .normal r h Q = stepV P (k.run P (x.ev (r.trim rs)) (y.ev (r.trim rs))) d D os ks r h Q := k_pure rfl
theorem kg_bin {k : BK} {x y : RX} {j : Nat} {want : Bool} : wpK P (.os D (⟨d, (.bin k x y), some (j, want), rs⟩ :: os) :: ks) .normal r h Q = (isGate (r.trim rs j) ∧ Imp (took (r.trim rs j) want) ((k.run P (x.ev (r.trim rs)) (y.ev (r.trim rs))).isSome = true) ∧ stepV P (some (V.opt (took (r.trim rs j) want) ((k.run P (x.ev (r.trim rs)) (y.ev (r.trim rs))).getD .bad))) d D os ks r h Q) := k_gpure rfl
theorem k_un {o : UnOp} {x : RX} : wpK P (.os D (⟨d, (.un o x), none, rs⟩ :: os) :: ks) .normal r h Q = stepV P (unV o (x.ev (r.trim rs))) d D os ks r h Q := k_pure rfl
theorem kg_un {o : UnOp} {x : RX} {j : Nat} {want : Bool} : wpK P (.os D (⟨d, (.un o x), some (j, want), rs⟩ :: os) :: ks) .normal r h Q = (isGate (r.trim rs j) ∧ Imp (took (r.trim rs j) want) ((unV o (x.ev (r.trim rs))).isSome = true) ∧ stepV P (some (V.opt (took (r.trim rs j) want) ((unV o (x.ev (r.trim rs))).getD .bad))) d D os ks r h Q) := k_gpure rfl
theorem k_fn {f : FuncId} {cs : List RX} : wpK P (.os D (⟨d, (.fn f cs), none, rs⟩ :: os) :: ks) .normal r h Q = stepV P (some (V.func f (RX.evs (r.trim rs) cs))) d D os ks r h Q := k_pure rfl
theorem kg_fn {f : FuncId} {cs : List RX} {j : Nat} {want : Bool} : wpK P (.os D (⟨d, (.fn f cs), some (j, want), rs⟩ :: os) :: ks) .normal r h Q = (isGate (r.trim rs j) ∧ Imp (took (r.trim rs j) want) ((some (V.func f (RX.evs (r.trim rs) cs))).isSome = true) ∧ stepV P (some (V.opt (took (r.trim rs j) want) ((some (V.func f (RX.evs (r.trim rs) cs))).getD .bad))) d D os ks r h Q) := k_gpure rfl
theorem k_ifc {t : TypeId} {x : RX} : wpK P (.os D (⟨d, (.ifc t x), none, rs⟩ :: os) :: ks) .normal r h Q = stepV P (some (V.iface t (x.ev (r.trim rs)))) d D os ks r h Q := k_pure rfl
theorem kg_ifc {t : TypeId} {x : RX} {j : Nat} {want : Bool} : wpK P (.os D (⟨d, (.ifc t x), some (j, want), rs⟩ :: os) :: ks) .normal r h Q = (isGate (r.trim rs j) ∧ Imp (took (r.trim rs j) want) ((some (V.iface t (x.ev (r.trim rs)))).isSome = true) ∧ stepV P (some (V.opt (took (r.trim rs j) want) ((some (V.iface t (x.ev (r.trim rs)))).getD .bad))) d D os ks r h Q) := k_gpure rfl
theorem k_slstr {x : RX} {lo hi m3 : Option RX} : wpK P (.os D (⟨d, (.slstr x lo hi m3), none, rs⟩ :: os) :: ks) .normal r h Q = stepV P (sliceStr (x.ev (r.trim rs)) (RX.opt (r.trim rs) lo) (RX.opt (r.trim rs) hi) (RX.opt (r.trim rs) m3)) d D os ks r h Q := k_pure rfl
theorem kg_slstr {x : RX} {lo hi m3 : Option RX} {j : Nat} {want : Bool} : wpK P (.os D (⟨d, (.slstr x lo hi m3), some (j, want), rs⟩ :: os) :: ks) .normal r h Q = (isGate (r.trim rs j) ∧ Imp (took (r.trim rs j) want) ((sliceStr (x.ev (r.trim rs)) (RX.opt (r.trim rs) lo) (RX.opt (r.trim rs) hi) (RX.opt (r.trim rs) m3)).isSome = true) ∧ stepV P (some (V.opt (took (r.trim rs j) want) ((sliceStr (x.ev (r.trim rs)) (RX.opt (r.trim rs) lo) (RX.opt (r.trim rs) hi) (RX.opt (r.trim rs) m3)).getD .bad))) d D os ks r h Q) := k_gpure rfl
theorem k_sl {n : Nat} {x : RX} {lo hi m3 : Option RX} : wpK P (.os D (⟨d, (.sl n x lo hi m3), none, rs⟩ :: os) :: ks) .normal r h Q = stepV P (sliceV n (x.ev (r.trim rs)) (RX.opt (r.trim rs) lo) (RX.opt (r.trim rs) hi) (RX.opt (r.trim rs) m3)) d D os ks r h Q := k_pure rfl
theorem kg_sl {n : Nat} {x : RX} {lo hi m3 : Option RX} {j : Nat} {want : Bool} : wpK P (.os D (⟨d, (.sl n x lo hi m3), some (j, want), rs⟩ :: os) :: ks) .normal r h Q = (isGate (r.trim rs j) ∧ Imp (took (r.trim rs j) want) ((sliceV n (x.ev (r.trim rs)) (RX.opt (r.trim rs) lo) (RX.opt (r.trim rs) hi) (RX.opt (r.trim rs) m3)).isSome = true) ∧ stepV P (some (V.opt (took (r.trim rs j) want) ((sliceV n (x.ev (r.trim rs)) (RX.opt (r.trim rs) lo) (RX.opt (r.trim rs) hi) (RX.opt (r.trim rs) m3)).getD .bad))) d D os ks r h Q) := k_gpure rfl
theorem k_fa {o : Nat} {x : RX} : wpK P (.os D (⟨d, (.fa o x), none, rs⟩ :: os) :: ks) .normal r h Q = stepV P (faV o (x.ev (r.trim rs))) d D os ks r h Q := k_pure rfl
theorem kg_fa {o : Nat} {x : RX} {j : Nat} {want : Bool} : wpK P (.os D (⟨d, (.fa o x), some (j, want), rs⟩ :: os) :: ks) .normal r h Q = (isGate (r.trim rs j) ∧ Imp (took (r.trim rs j) want) ((faV o (x.ev (r.trim rs))).isSome = true) ∧ stepV P (some (V.opt (took (r.trim rs j) want) ((faV o (x.ev (r.trim rs))).getD .bad))) d D os ks r h Q) := k_gpure rfl
theorem k_fld1 {o : Nat} {x : RX} : wpK P (.os D (⟨d, (.fld1 o x), none, rs⟩ :: os) :: ks) .normal r h Q = stepV P ((x.ev (r.trim rs)).onAgg none fun cs => cs[o]?) d D os ks r h Q := k_pure rfl
theorem kg_fld1 {o : Nat} {x : RX} {j : Nat} {want : Bool} : wpK P (.os D (⟨d, (.fld1 o x), some (j, want), rs⟩ :: os) :: ks) .normal r h Q = (isGate (r.trim rs j) ∧ Imp (took (r.trim rs j) want) (((x.ev (r.trim rs)).onAgg none fun cs => cs[o]?).isSome = true) ∧ stepV P (some (V.opt (took (r.trim rs j) want) (((x.ev (r.trim rs)).onAgg none fun cs => cs[o]?).getD .bad))) d D os ks r h Q) := k_gpure rfl
theorem k_fldn {o n : Nat} {x : RX} : wpK P (.os D (⟨d, (.fldn o n x), none, rs⟩ :: os) :: ks) .normal r h Q = stepV P ((x.ev (r.trim rs)).onAgg none fun cs => some (V.agg ((cs.drop o).take n))) d D os ks r h Q := k_pure rfl
theorem kg_fldn {o n : Nat} {x : RX} {j : Nat} {want : Bool} : wpK P (.os D (⟨d, (.fldn o n x), some (j, want), rs⟩ :: os) :: ks) .normal r h Q = (isGate (r.trim rs j) ∧ Imp (took (r.trim rs j) want) (((x.ev (r.trim rs)).onAgg none fun cs => some (V.agg ((cs.drop o).take n))).isSome = true) ∧ stepV P (some (V.opt (took (r.trim rs j) want) (((x.ev (r.trim rs)).onAgg none fun cs => some (V.agg ((cs.drop o).take n))).getD .bad))) d D os ks r h Q) := k_gpure rfl
theorem k_ia {n : Nat} {x i : RX} : wpK P (.os D (⟨d, (.ia n x i), none, rs⟩ :: os) :: ks) .normal r h Q = stepV P (iaV n (x.ev (r.trim rs)) (i.ev (r.trim rs))) d D os ks r h Q := k_pure rfl
theorem kg_ia {n : Nat} {x i : RX} {j : Nat} {want : Bool} : wpK P (.os D (⟨d, (.ia n x i), some (j, want), rs⟩ :: os) :: ks) .normal r h Q = (isGate (r.trim rs j) ∧ Imp (took (r.trim rs j) want) ((iaV n (x.ev (r.trim rs)) (i.ev (r.trim rs))).isSome = true) ∧ stepV P (some (V.opt (took (r.trim rs j) want) ((iaV n (x.ev (r.trim rs)) (i.ev (r.trim rs))).getD .bad))) d D os ks r h Q) := k_gpure rfl
theorem k_iaa {m n : Nat} {x i : RX} : wpK P (.os D (⟨d, (.iaa m n x i), none, rs⟩ :: os) :: ks) .normal r h Q = stepV P ((indexArr m n).run (x.ev (r.trim rs)) (i.ev (r.trim rs))) d D os ks r h Q := k_pure rfl
theorem kg_iaa {m n : Nat} {x i : RX} {j : Nat} {want : Bool} : wpK P (.os D (⟨d, (.iaa m n x i), some (j, want), rs⟩ :: os) :: ks) .normal r h Q = (isGate (r.trim rs j) ∧ Imp (took (r.trim rs j) want) (((indexArr m n).run (x.ev (r.trim rs)) (i.ev (r.trim rs))).isSome = true) ∧ stepV P (some (V.opt (took (r.trim rs j) want) (((indexArr m n).run (x.ev (r.trim rs)) (i.ev (r.trim rs))).getD .bad))) d D os ks r h Q) := k_gpure rfl
theorem k_ixs {x i : RX} : wpK P (.os D (⟨d, (.ixs x i), none, rs⟩ :: os) :: ks) .normal r h Q = stepV P (indexStr.run (x.ev (r.trim rs)) (i.ev (r.trim rs))) d D os ks r h Q := k_pure rfl
theorem kg_ixs {x i : RX} {j : Nat} {want : Bool} : wpK P (.os D (⟨d, (.ixs x i), some (j, want), rs⟩ :: os) :: ks) .normal r h Q = (isGate (r.trim rs j) ∧ Imp (took (r.trim rs j) want) ((indexStr.run (x.ev (r.trim rs)) (i.ev (r.trim rs))).isSome = true) ∧ stepV P (some (V.opt (took (r.trim rs j) want) ((indexStr.run (x.ev (r.trim rs)) (i.ev (r.trim rs))).getD .bad))) d D os ks r h Q) := k_gpure rfl
theorem k_ix {t : TypeId} {x i : RX} : wpK P (.os D (⟨d, (.ix t x i), none, rs⟩ :: os) :: ks) .normal r h Q = stepV P ((indexC P t).run (x.ev (r.trim rs)) (i.ev (r.trim rs))) d D os ks r h Q := k_pure rfl
theorem kg_ix {t : TypeId} {x i : RX} {j : Nat} {want : Bool} : wpK P (.os D (⟨d, (.ix t x i), some (j, want), rs⟩ :: os) :: ks) .normal r h Q = (isGate (r.trim rs j) ∧ Imp (took (r.trim rs j) want) (((indexC P t).run (x.ev (r.trim rs)) (i.ev (r.trim rs))).isSome = true) ∧ stepV P (some (V.opt (took (r.trim rs j) want) (((indexC P t).run (x.ev (r.trim rs)) (i.ev (r.trim rs))).getD .bad))) d D os ks r h Q) := k_gpure rfl
theorem k_look {k : KK} {z : V} {ok : Bool} {x i : RX} : wpK P (.os D (⟨d, (.look k z ok x i), none, rs⟩ :: os) :: ks) .normal r h Q = stepV P (lookupV k.eq z ok h (x.ev (r.trim rs)) (i.ev (r.trim rs))) d D os ks r h Q := k_pure rfl
theorem kg_look {k : KK} {z : V} {ok : Bool} {x i : RX} {j : Nat} {want : Bool} : wpK P (.os D (⟨d, (.look k z ok x i), some (j, want), rs⟩ :: os) :: ks) .normal r h Q = (isGate (r.trim rs j) ∧ Imp (took (r.trim rs j) want) ((lookupV k.eq z ok h (x.ev (r.trim rs)) (i.ev (r.trim rs))).isSome = true) ∧ stepV P (some (V.opt (took (r.trim rs j) want) ((lookupV k.eq z ok h (x.ev (r.trim rs)) (i.ev (r.trim rs))).getD .bad))) d D os ks r h Q) := k_gpure rfl
theorem k_ext {x : RX} {i : Nat} : wpK P (.os D (⟨d, (.ext x i), none, rs⟩ :: os) :: ks) .normal r h Q = stepV P ((x.ev (r.trim rs)).onTup none fun vs => vs[i]?) d D os ks r h Q := k_pure rfl
theorem kg_ext {x : RX} {i : Nat} {j : Nat} {want : Bool} : wpK P (.os D (⟨d, (.ext x i), some (j, want), rs⟩ :: os) :: ks) .normal r h Q = (isGate (r.trim rs j) ∧ Imp (took (r.trim rs j) want) (((x.ev (r.trim rs)).onTup none fun vs => vs[i]?).isSome = true) ∧ stepV P (some (V.opt (took (r.trim rs j) want) (((x.ev (r.trim rs)).onTup none fun vs => vs[i]?).getD .bad))) d D os ks r h Q) := k_gpure rfl
theorem k_mn {args : List RX} : wpK P (.os D (⟨d, (.mn args), none, rs⟩ :: os) :: ks) .normal r h Q = stepV P (pickV (fun b a => !Int.leB a b) (RX.evs (r.trim rs) args)) d D os ks r h Q := k_pure rfl
theorem kg_mn {args : List RX} {j : Nat} {want : Bool} : wpK P (.os D (⟨d, (.mn args), some (j, want), rs⟩ :: os) :: ks) .normal r h Q = (isGate (r.trim rs j) ∧ Imp (took (r.trim rs j) want) ((pickV (fun b a => !Int.leB a b) (RX.evs (r.trim rs) args)).isSome = true) ∧ stepV P (some (V.opt (took (r.trim rs j) want) ((pickV (fun b a => !Int.leB a b) (RX.evs (r.trim rs) args)).getD .bad))) d D os ks r h Q) := k_gpure rfl
theorem k_mx {args : List RX} : wpK P (.os D (⟨d, (.mx args), none, rs⟩ :: os) :: ks) .normal r h Q = stepV P (pickV (fun b a => !Int.leB b a) (RX.evs (r.trim rs) args)) d D os ks r h Q := k_pure rfl
theorem kg_mx {args : List RX} {j : Nat} {want : Bool} : wpK P (.os D (⟨d, (.mx args), some (j, want), rs⟩ :: os) :: ks) .normal r h Q = (isGate (r.trim rs j) ∧ Imp (took (r.trim rs j) want) ((pickV (fun b a => !Int.leB b a) (RX.evs (r.trim rs) args)).isSome = true) ∧ stepV P (some (V.opt (took (r.trim rs j) want) ((pickV (fun b a => !Int.leB b a) (RX.evs (r.trim rs) args)).getD .bad))) d D os ks r h Q) := k_gpure rfl
theorem k_cvint {k : IntKind} {x : RX} : wpK P (.os D (⟨d, (.cv (.int k) x), none, rs⟩ :: os) :: ks) .normal r h Q = stepV P (cvI k (x.ev (r.trim rs))) d D os ks r h Q := k_pure rfl
theorem kg_cvint {k : IntKind} {x : RX} {j : Nat} {want : Bool} : wpK P (.os D (⟨d, (.cv (.int k) x), some (j, want), rs⟩ :: os) :: ks) .normal r h Q = (isGate (r.trim rs j) ∧ Imp (took (r.trim rs j) want) ((cvI k (x.ev (r.trim rs))).isSome = true) ∧ stepV P (some (V.opt (took (r.trim rs j) want) ((cvI k (x.ev (r.trim rs))).getD .bad))) d D os ks r h Q) := k_gpure rfl
theorem k_lenslice {x : RX} : wpK P (.os D (⟨d, (.len .slice x), none, rs⟩ :: os) :: ks) .normal r h Q = stepV P (lenSl (x.ev (r.trim rs))) d D os ks r h Q := k_pure rfl
theorem kg_lenslice {x : RX} {j : Nat} {want : Bool} : wpK P (.os D (⟨d, (.len .slice x), some (j, want), rs⟩ :: os) :: ks) .normal r h Q = (isGate (r.trim rs j) ∧ Imp (took (r.trim rs j) want) ((lenSl (x.ev (r.trim rs))).isSome = true) ∧ stepV P (some (V.opt (took (r.trim rs j) want) ((lenSl (x.ev (r.trim rs))).getD .bad))) d D os ks r h Q) := k_gpure rfl
theorem k_lenstr {x : RX} : wpK P (.os D (⟨d, (.len .str x), none, rs⟩ :: os) :: ks) .normal r h Q = stepV P (lenSt (x.ev (r.trim rs))) d D os ks r h Q := k_pure rfl
theorem kg_lenstr {x : RX} {j : Nat} {want : Bool} : wpK P (.os D (⟨d, (.len .str x), some (j, want), rs⟩ :: os) :: ks) .normal r h Q = (isGate (r.trim rs j) ∧ Imp (took (r.trim rs j) want) ((lenSt (x.ev (r.trim rs))).isSome = true) ∧ stepV P (some (V.opt (took (r.trim rs j) want) ((lenSt (x.ev (r.trim rs))).getD .bad))) d D os ks r h Q) := k_gpure rfl
theorem k_lenarr {n : Nat} {x : RX} : wpK P (.os D (⟨d, (.len (.arr n) x), none, rs⟩ :: os) :: ks) .normal r h Q = stepV P (some (V.int .i64 n)) d D os ks r h Q := k_pure rfl
theorem kg_lenarr {n : Nat} {x : RX} {j : Nat} {want : Bool} : wpK P (.os D (⟨d, (.len (.arr n) x), some (j, want), rs⟩ :: os) :: ks) .normal r h Q = (isGate (r.trim rs j) ∧ Imp (took (r.trim rs j) want) ((some (V.int .i64 n)).isSome = true) ∧ stepV P (some (V.opt (took (r.trim rs j) want) ((some (V.int .i64 n)).getD .bad))) d D os ks r h Q) := k_gpure rfl
theorem k_new {z : List V} : wpK P (.os D (⟨d, (.new z), none, rs⟩ :: os) :: ks) .normal r h Q = stepO P (orH (.ptr (pa h.next) 0) (newCells h z)) d D os ks r h Q := k_run rfl rfl
theorem kg_new {z : List V} {j : Nat} {want : Bool} : wpK P (.os D (⟨d, (.new z), some (j, want), rs⟩ :: os) :: ks) .normal r h Q = gateK P (r.trim rs j) want d (.new z) rs D os ks r h Q := k_gate rfl
theorem k_box {x : RX} : wpK P (.os D (⟨d, (.box x), none, rs⟩ :: os) :: ks) .normal r h Q = stepO P (boxO (x.ev (r.trim rs)).good (orH (.ptr (pa h.next) 0) (newCells h (x.ev (r.trim rs)).cells))) d D os ks r h Q := k_run rfl rfl
theorem kg_box {x : RX} {j : Nat} {want : Bool} : wpK P (.os D (⟨d, (.box x), some (j, want), rs⟩ :: os) :: ks) .normal r h Q = gateK P (r.trim rs j) want d (.box x) rs D os ks r h Q := k_gate rfl
theorem k_bsl {n m : Nat} {z : List V} {ps : List (Nat × Nat × RX)} : wpK P (.os D (⟨d, (.bsl n m z ps), none, rs⟩ :: os) :: ks) .normal r h Q = stepO P (bslO n h (fillR (repeatV z n) (evPs (r.trim rs) ps))) d D os ks r h Q := by rw [k_run rfl rfl, run_bsl]
theorem kg_bsl {n m : Nat} {z : List V} {ps : List (Nat × Nat × RX)} {j : Nat} {want : Bool} : wpK P (.os D (⟨d, (.bsl n m z ps), some (j, want), rs⟩ :: os) :: ks) .normal r h Q = gateK P (r.trim rs j) want d (.bsl n m z ps) rs D os ks r h Q := k_gate rfl
theorem k_st {n : Nat} {x y : RX} : wpK P (.os D (⟨d, (.st n x y), none, rs⟩ :: os) :: ks) .normal r h Q = stepO P (orH .bad (storeV n h (x.ev (r.trim rs)) (y.ev (r.trim rs)))) d D os ks r h Q := k_run rfl rfl
theorem kg_st {n : Nat} {x y : RX} {j : Nat} {want : Bool} : wpK P (.os D (⟨d, (.st n x y), some (j, want), rs⟩ :: os) :: ks) .normal r h Q = gateK P (r.trim rs j) want d (.st n x y) rs D os ks r h Q := k_gate rfl
theorem k_mksl {n : Nat} {z : List V} {l c : RX} : wpK P (.os D (⟨d, (.mksl n z l c), none, rs⟩ :: os) :: ks) .normal r h Q = stepO P (makeSliceV n z (l.ev (r.trim rs)) (c.ev (r.trim rs)) h) d D os ks r h Q := k_run rfl rfl
theorem kg_mksl {n : Nat} {z : List V} {l c : RX} {j : Nat} {want : Bool} : wpK P (.os D (⟨d, (.mksl n z l c), some (j, want), rs⟩ :: os) :: ks) .normal r h Q = gateK P (r.trim rs j) want d (.mksl n z l c) rs D os ks r h Q := k_gate rfl
theorem k_upd {k : KK} {m i x : RX} : wpK P (.os D (⟨d, (.upd k m i x), none, rs⟩ :: os) :: ks) .normal r h Q = stepO P (orH .bad (updV k.eq h (m.ev (r.trim rs)) (i.ev (r.trim rs)) (x.ev (r.trim rs)))) d D os ks r h Q := k_run rfl rfl
theorem kg_upd {k : KK} {m i x : RX} {j : Nat} {want : Bool} : wpK P (.os D (⟨d, (.upd k m i x), some (j, want), rs⟩ :: os) :: ks) .normal r h Q = gateK P (r.trim rs j) want d (.upd k m i x) rs D os ks r h Q := k_gate rfl
theorem k_mkm {x : Option RX} : wpK P (.os D (⟨d, (.mkm x), none, rs⟩ :: os) :: ks) .normal r h Q = stepO P (makeMapV (RX.opt (r.trim rs) x) h) d D os ks r h Q := k_run rfl rfl
theorem kg_mkm {x : Option RX} {j : Nat} {want : Bool} : wpK P (.os D (⟨d, (.mkm x), some (j, want), rs⟩ :: os) :: ks) .normal r h Q = gateK P (r.trim rs j) want d (.mkm x) rs D os ks r h Q := k_gate rfl
theorem k_rngs {x : RX} : wpK P (.os D (⟨d, (.rngs x), none, rs⟩ :: os) :: ks) .normal r h Q = stepO P (rngO (x.ev (r.trim rs)) h) d D os ks r h Q := (k_run rfl rfl).trans (by first | rfl | (unfold rngO; simp only [G.run]; cases x.ev (r.trim rs) <;> rfl) | (unfold rngO; cases x.ev (r.trim rs) <;> rfl))
theorem kg_rngs {x : RX} {j : Nat} {want : Bool} : wpK P (.os D (⟨d, (.rngs x), some (j, want), rs⟩ :: os) :: ks) .normal r h Q = gateK P (r.trim rs j) want d (.rngs x) rs D os ks r h Q := k_gate rfl
theorem k_nxt {x : RX} : wpK P (.os D (⟨d, (.nxt x), none, rs⟩ :: os) :: ks) .normal r h Q = stepO P (nextV (x.ev (r.trim rs)) h) d D os ks r h Q := k_run rfl rfl
theorem kg_nxt {x : RX} {j : Nat} {want : Bool} : wpK P (.os D (⟨d, (.nxt x), some (j, want), rs⟩ :: os) :: ks) .normal r h Q = gateK P (r.trim rs j) want d (.nxt x) rs D os ks r h Q := k_gate rfl
theorem k_app {n : Nat} {s x : RX} : wpK P (.os D (⟨d, (.app n s x), none, rs⟩ :: os) :: ks) .normal r h Q = stepO P (appV n (s.ev (r.trim rs)) (x.ev (r.trim rs)) h) d D os ks r h Q := k_run rfl rfl
theorem kg_app {n : Nat} {s x : RX} {j : Nat} {want : Bool} : wpK P (.os D (⟨d, (.app n s x), some (j, want), rs⟩ :: os) :: ks) .normal r h Q = gateK P (r.trim rs j) want d (.app n s x) rs D os ks r h Q := k_gate rfl
theorem k_copy {n : Nat} {d' s : RX} : wpK P (.os D (⟨d, (.copy n d' s), none, rs⟩ :: os) :: ks) .normal r h Q = stepO P (copyV n (d'.ev (r.trim rs)) (s.ev (r.trim rs)) h) d D os ks r h Q := k_run rfl rfl
theorem kg_copy {n : Nat} {d' s : RX} {j : Nat} {want : Bool} : wpK P (.os D (⟨d, (.copy n d' s), some (j, want), rs⟩ :: os) :: ks) .normal r h Q = gateK P (r.trim rs j) want d (.copy n d' s) rs D os ks r h Q := k_gate rfl
theorem k_clr {z : List V} {x : RX} : wpK P (.os D (⟨d, (.clr z x), none, rs⟩ :: os) :: ks) .normal r h Q = stepO P (clearV z (x.ev (r.trim rs)) h) d D os ks r h Q := k_run rfl rfl
theorem k_lenmap {x : RX} : wpK P (.os D (⟨d, (.len .map x), none, rs⟩ :: os) :: ks) .normal r h Q = stepO P (lenMap [x.ev (r.trim rs)] h) d D os ks r h Q := k_run rfl rfl
theorem kg_lenmap {x : RX} {j : Nat} {want : Bool} : wpK P (.os D (⟨d, (.len .map x), some (j, want), rs⟩ :: os) :: ks) .normal r h Q = gateK P (r.trim rs j) want d (.len .map x) rs D os ks r h Q := k_gate rfl
theorem k_cvbytes {x : RX} : wpK P (.os D (⟨d, (.cv .bytes x), none, rs⟩ :: os) :: ks) .normal r h Q = stepO P (convBytes.run (x.ev (r.trim rs)) h) d D os ks r h Q := k_run rfl rfl
theorem kg_cvbytes {x : RX} {j : Nat} {want : Bool} : wpK P (.os D (⟨d, (.cv .bytes x), some (j, want), rs⟩ :: os) :: ks) .normal r h Q = gateK P (r.trim rs j) want d (.cv .bytes x) rs D os ks r h Q := k_gate rfl
theorem k_cvstr {x : RX} : wpK P (.os D (⟨d, (.cv .str x), none, rs⟩ :: os) :: ks) .normal r h Q = stepO P (convStr.run (x.ev (r.trim rs)) h) d D os ks r h Q := k_run rfl rfl
theorem kg_cvstr {x : RX} {j : Nat} {want : Bool} : wpK P (.os D (⟨d, (.cv .str x), some (j, want), rs⟩ :: os) :: ks) .normal r h Q = gateK P (r.trim rs j) want d (.cv .str x) rs D os ks r h Q := k_gate rfl
theorem k_cvoth {s d' : TypeId} {x : RX} : wpK P (.os D (⟨d, (.cv (.other s d') x), none, rs⟩ :: os) :: ks) .normal r h Q = stepO P ((convC P s d').run (x.ev (r.trim rs)) h) d D os ks r h Q := k_run rfl rfl
theorem kg_cvoth {s d' : TypeId} {x : RX} {j : Nat} {want : Bool} : wpK P (.os D (⟨d, (.cv (.other s d') x), some (j, want), rs⟩ :: os) :: ks) .normal r h Q = gateK P (r.trim rs j) want d (.cv (.other s d') x) rs D os ks r h Q := k_gate rfl
theorem kg_call {f : FuncId} {args : List RX} {j : Nat} {want : Bool} : wpK P (.os D (⟨d, (.call f args), some (j, want), rs⟩ :: os) :: ks) .normal r h Q = gateK P (r.trim rs j) want d (.call f args) rs D os ks r h Q := k_gate rfl
theorem kg_callv {f : RX} {args : List RX} {j : Nat} {want : Bool} : wpK P (.os D (⟨d, (.callv f args), some (j, want), rs⟩ :: os) :: ks) .normal r h Q = gateK P (r.trim rs j) want d (.callv f args) rs D os ks r h Q := k_gate rfl
end
end Go.Proofs.YtjbiefneffiogaaGreat.Am

namespace Go.Proofs.YtjbiefneffiogaaGreat.Am
variable [Lay]
open Go Go.RowKit
theorem newCells_if (h : Heap) (vs : List V) : newCells h vs = if vs.length ≤ top then some (h.new (.ofL vs 0 false)) else none := by
  by_cases hl : vs.length ≤ top
  · rw [if_pos hl, newCells_eq hl]
  · rw [if_neg hl]
    unfold newCells
    rw [show Nat.ble vs.length top = false from by rw [← Bool.not_eq_true, Nat.ble_eq]; exact hl]
    rfl
theorem lay_if (h : Heap) (n : Nat) (b : Pa) (off : Nat) (y : V) (vs : List V) (esz : Nat) (st : Bool) :
    layB n h b off y (.ofL vs esz st) = if y.cells.length = n ∧ ones y.cells = true ∧ off + n ≤ vs.length then some (h.set b (.ofL (spl vs off y.cells) esz st)) else none := by
  by_cases hc : y.cells.length = n ∧ ones y.cells = true ∧ off + n ≤ vs.length
  · rw [if_pos hc, lay_ofL hc.1 hc.2.1 hc.2.2]
  · rw [if_neg hc]
    unfold layB
    by_cases h1 : y.cells.length = n
    · rw [show Nat.beq y.cells.length n = true from by rw [Nat.beq_eq]; exact h1]
      simp only [cond_true, Blk.ofL, Blk.on]
      by_cases h2 : ones y.cells = true
      · have h3 : ¬ off + y.cells.length ≤ vs.length := fun q => hc ⟨h1, h2, by omega⟩
        rw [show Nat.ble (off + y.cells.length) vs.length = false from by rw [← Bool.not_eq_true, Nat.ble_eq]; exact h3]
        rfl
      · rw [show ones y.cells = false from by simpa using h2, Bool.and_false]
        rfl
    · rw [show Nat.beq y.cells.length n = false from by rw [← Bool.not_eq_true, Nat.beq_eq]; exact h1]
      rfl
theorem fill_if (cells : List V) (off size : Nat) (v : V) (rest : List (Nat × Nat × V)) :
    fillR cells ((off, size, v) :: rest) = if v.good = true ∧ v.cells.length = size ∧ off + size ≤ cells.length then fillR (spl cells off v.cells) rest else none := by
  by_cases hc : v.good = true ∧ v.cells.length = size ∧ off + size ≤ cells.length
  · rw [if_pos hc, fill_cons hc.1 hc.2.1 hc.2.2]
  · rw [if_neg hc]
    simp only [fillR]
    cases hb : (v.good && (Nat.beq v.cells.length size && Nat.ble (off + v.cells.length) cells.length)) with
    | false => rfl
    | true =>
      simp only [Bool.and_eq_true, Nat.beq_eq, Nat.ble_eq] at hb
      exact absurd ⟨hb.1, hb.2.1, by omega⟩ hc
theorem cells_bool (b : Bool) : V.cells (.bool b : V) = [.bool b] := rfl
theorem one_bool (b : Bool) : V.one (.bool b : V) = true := rfl
theorem good_bool (b : Bool) : V.good (.bool b : V) = true := rfl
theorem cells_int (k : IntKind) (n : Int) : V.cells (.int k n : V) = [.int k n] := rfl
theorem one_int (k : IntKind) (n : Int) : V.one (.int k n : V) = true := rfl
theorem good_int (k : IntKind) (n : Int) : V.good (.int k n : V) = true := rfl
theorem cells_str (s : List UInt8) : V.cells (.str s : V) = [.str s] := rfl
theorem one_str (s : List UInt8) : V.one (.str s : V) = true := rfl
theorem good_str (s : List UInt8) : V.good (.str s : V) = true := rfl
theorem cells_nilptr : V.cells (.nilptr : V) = [.nilptr] := rfl
theorem one_nilptr  : V.one (.nilptr : V) = true := rfl
theorem good_nilptr  : V.good (.nilptr : V) = true := rfl
theorem cells_ptr (b : Pa) (o : Nat) : V.cells (.ptr b o : V) = [.ptr b o] := rfl
theorem one_ptr (b : Pa) (o : Nat) : V.one (.ptr b o : V) = true := rfl
theorem good_ptr (b : Pa) (o : Nat) : V.good (.ptr b o : V) = true := rfl
theorem cells_slice (b : Pa) (o l c : Nat) : V.cells (.slice b o l c : V) = [.slice b o l c] := rfl
theorem one_slice (b : Pa) (o l c : Nat) : V.one (.slice b o l c : V) = true := rfl
theorem good_slice (b : Pa) (o l c : Nat) : V.good (.slice b o l c : V) = true := rfl
theorem cells_gslice (b : Pa) (o l c : Nat) : V.cells (.gslice b o l c : V) = [.gslice b o l c] := rfl
theorem one_gslice (b : Pa) (o l c : Nat) : V.one (.gslice b o l c : V) = true := rfl
theorem good_gslice (b : Pa) (o l c : Nat) : V.good (.gslice b o l c : V) = true := rfl
theorem cells_tslice (b : Pa) (o l c : Nat) : V.cells (.tslice b o l c : V) = [.tslice b o l c] := rfl
theorem one_tslice (b : Pa) (o l c : Nat) : V.one (.tslice b o l c : V) = true := rfl
theorem good_tslice (b : Pa) (o l c : Nat) : V.good (.tslice b o l c : V) = true := rfl
theorem cells_nilslice : V.cells (.nilslice : V) = [.nilslice] := rfl
theorem one_nilslice  : V.one (.nilslice : V) = true := rfl
theorem good_nilslice  : V.good (.nilslice : V) = true := rfl
theorem cells_nilmap : V.cells (.nilmap : V) = [.nilmap] := rfl
theorem one_nilmap  : V.one (.nilmap : V) = true := rfl
theorem good_nilmap  : V.good (.nilmap : V) = true := rfl
theorem cells_map (b : Pa) : V.cells (.map b : V) = [.map b] := rfl
theorem one_map (b : Pa) : V.one (.map b : V) = true := rfl
theorem good_map (b : Pa) : V.good (.map b : V) = true := rfl
theorem cells_func (f : FuncId) (cs : List V) : V.cells (.func f cs : V) = [.func f cs] := rfl
theorem one_func (f : FuncId) (cs : List V) : V.one (.func f cs : V) = true := rfl
theorem good_func (f : FuncId) (cs : List V) : V.good (.func f cs : V) = true := rfl
theorem cells_nilfunc : V.cells (.nilfunc : V) = [.nilfunc] := rfl
theorem one_nilfunc  : V.one (.nilfunc : V) = true := rfl
theorem good_nilfunc  : V.good (.nilfunc : V) = true := rfl
theorem cells_iface (t : TypeId) (v : V) : V.cells (.iface t v : V) = [.iface t v] := rfl
theorem one_iface (t : TypeId) (v : V) : V.one (.iface t v : V) = true := rfl
theorem good_iface (t : TypeId) (v : V) : V.good (.iface t v : V) = true := rfl
theorem cells_nilIface : V.cells (.nilIface : V) = [.nilIface] := rfl
theorem one_nilIface  : V.one (.nilIface : V) = true := rfl
theorem good_nilIface  : V.good (.nilIface : V) = true := rfl
theorem cells_agg (cs : List V) : V.cells (.agg cs) = cs := rfl
theorem good_agg (cs : List V) : V.good (.agg cs) = true := rfl
theorem good_tuple (cs : List V) : V.good (.tuple cs) = true := rfl
theorem add11 (n : Nat) : n + 1 + 1 = n + 2 := rfl
theorem add21 (n : Nat) : n + 2 + 1 = n + 3 := rfl
theorem add31 (n : Nat) : n + 3 + 1 = n + 4 := rfl
theorem add41 (n : Nat) : n + 4 + 1 = n + 5 := rfl
theorem add51 (n : Nat) : n + 5 + 1 = n + 6 := rfl
theorem add61 (n : Nat) : n + 6 + 1 = n + 7 := rfl
theorem add71 (n : Nat) : n + 7 + 1 = n + 8 := rfl
theorem add81 (n : Nat) : n + 8 + 1 = n + 9 := rfl
theorem add91 (n : Nat) : n + 9 + 1 = n + 10 := rfl
theorem add101 (n : Nat) : n + 10 + 1 = n + 11 := rfl
theorem add111 (n : Nat) : n + 11 + 1 = n + 12 := rfl
theorem add121 (n : Nat) : n + 12 + 1 = n + 13 := rfl
theorem add131 (n : Nat) : n + 13 + 1 = n + 14 := rfl
theorem add141 (n : Nat) : n + 14 + 1 = n + 15 := rfl
theorem add151 (n : Nat) : n + 15 + 1 = n + 16 := rfl
theorem nx1 (n : Nat) : (n + 1 = n) = False := eq_false (by omega)
theorem xn1 (n : Nat) : (n = n + 1) = False := eq_false (by omega)
theorem nx2 (n : Nat) : (n + 2 = n) = False := eq_false (by omega)
theorem xn2 (n : Nat) : (n = n + 2) = False := eq_false (by omega)
theorem nx3 (n : Nat) : (n + 3 = n) = False := eq_false (by omega)
theorem xn3 (n : Nat) : (n = n + 3) = False := eq_false (by omega)
theorem nx4 (n : Nat) : (n + 4 = n) = False := eq_false (by omega)
theorem xn4 (n : Nat) : (n = n + 4) = False := eq_false (by omega)
theorem nx5 (n : Nat) : (n + 5 = n) = False := eq_false (by omega)
theorem xn5 (n : Nat) : (n = n + 5) = False := eq_false (by omega)
theorem nx6 (n : Nat) : (n + 6 = n) = False := eq_false (by omega)
theorem xn6 (n : Nat) : (n = n + 6) = False := eq_false (by omega)
theorem nx7 (n : Nat) : (n + 7 = n) = False := eq_false (by omega)
theorem xn7 (n : Nat) : (n = n + 7) = False := eq_false (by omega)
theorem nx8 (n : Nat) : (n + 8 = n) = False := eq_false (by omega)
theorem xn8 (n : Nat) : (n = n + 8) = False := eq_false (by omega)
theorem gateK_tt {P : Program} {r : RF} {h : Heap} {Q : Ex → RF → Heap → Prop} {ks : List KS} {os : List GO} {D : Option DS} {d : Option Nat} {g : G} {rs : List Nat} : gateK P (.bool true) true d g rs D os ks r h Q = wpK P (.os D (⟨d, g, none, rs⟩ :: os) :: ks) .normal r h Q := by
  rw [gateK_t]; simp
theorem gateK_ff {P : Program} {r : RF} {h : Heap} {Q : Ex → RF → Heap → Prop} {ks : List KS} {os : List GO} {D : Option DS} {d : Option Nat} {g : G} {rs : List Nat} : gateK P (.bool false) false d g rs D os ks r h Q = wpK P (.os D (⟨d, g, none, rs⟩ :: os) :: ks) .normal r h Q := by
  rw [gateK_f]; simp
theorem gateK_tf {P : Program} {r : RF} {h : Heap} {Q : Ex → RF → Heap → Prop} {ks : List KS} {os : List GO} {D : Option DS} {d : Option Nat} {g : G} {rs : List Nat} : gateK P (.bool true) false d g rs D os ks r h Q = wpK P (.os (pushD D r h (.tuple [])) os :: ks) .normal (r.set d (.tuple [])) h Q := by
  rw [gateK_f]; simp
theorem gateK_ft {P : Program} {r : RF} {h : Heap} {Q : Ex → RF → Heap → Prop} {ks : List KS} {os : List GO} {D : Option DS} {d : Option Nat} {g : G} {rs : List Nat} : gateK P (.bool false) true d g rs D os ks r h Q = wpK P (.os (pushD D r h (.tuple [])) os :: ks) .normal (r.set d (.tuple [])) h Q := by
  rw [gateK_t]; simp
theorem bif_optn (c : Bool) (a b : V) : V.bif (!c) a (V.opt c b) = V.bif (!c) a b := by cases c <;> rfl
theorem imp_T (A : Prop) : (True → A) = A := propext ⟨fun q => q trivial, fun q _ => q⟩
theorem imp_F (A : Prop) : (False → A) = True := propext ⟨fun _ => trivial, fun _ q => q.elim⟩
section
variable {P : Program}
theorem loopK_intro {b : RC} {ks : List KS} {r : RF} {h : Heap} {Q : Ex → RF → Heap → Prop} (I : RF → Heap → Prop) (μ : RF → Heap → Nat) (h0 : I r h)
    (step : ∀ r h, I r h → wpK P [.c b] .normal r h fun e r' h' => e.andThen (I r' h' ∧ μ r' h' < μ r h) (wpK P ks e r' h' Q)) : loopK P b ks r h Q :=
  ⟨I, μ, h0, step⟩
def V.toN : V → Nat
  | .int _ n => n.toNat
  | _ => 0
theorem toN_int (k : IntKind) (n : Int) : V.toN (.int k n) = n.toNat := rfl
theorem callK_pure {f : FuncId} {args : List V} {d : Option Nat} {os : List GO} {D : Option DS} {ks : List KS} {r : RF} {h : Heap} {Q : Ex → RF → Heap → Prop} {v : V}
    (c : CallsV P f args h v h) (H : wpK P (.os (pushD D r h v) os :: ks) .normal (r.set d v) h Q) : callK P f args d D os ks r h Q := ⟨v, h, c, H⟩
theorem callK_intro {f : FuncId} {args : List V} {d : Option Nat} {os : List GO} {D : Option DS} {ks : List KS} {r : RF} {h : Heap} {Q : Ex → RF → Heap → Prop} {K : V → Heap → Prop}
    (c : Ctr P f args h K) (H : ∀ v h', K v h' → wpK P (.os (pushD D r h v) os :: ks) .normal (r.set d v) h' Q) : callK P f args d D os ks r h Q := c.mono H
structure Ext (h h' : Heap) : Prop where
  next : h.next ≤ h'.next
  get : ∀ b, Old h b → h'.get b = h.get b
theorem Ext.refl (h : Heap) : Ext h h := ⟨Nat.le_refl _, fun _ _ => rfl⟩
theorem Ext.old {h h' : Heap} (e : Ext h h') {b : Pa} (hb : Old h b) : Old h' b := Nat.lt_of_lt_of_le hb e.next
theorem Ext.trans {h h' h'' : Heap} (e : Ext h h') (e' : Ext h' h'') : Ext h h'' :=
  ⟨Nat.le_trans e.next e'.next, fun b hb => (e'.get b (e.old hb)).trans (e.get b hb)⟩
theorem Ext.new {h h' : Heap} (e : Ext h h') (k : Blk) : Ext h (h'.new k) :=
  ⟨Nat.le_succ_of_le e.next, fun b hb => by
    rw [get_new, if_neg (fun q => (old_ne (h := h) hb e.next) ▸ q)]
    exact e.get b hb⟩
theorem Ext.set {h h' : Heap} (e : Ext h h') {i : Nat} (hi : h.next ≤ i) (k : Blk) : Ext h (h'.set (pa i) k) :=
  ⟨e.next, fun b hb => by
    rw [get_set, if_neg (fun q => (old_ne (h := h) hb hi) ▸ q)]
    exact e.get b hb⟩
theorem Ext.rd {h h' : Heap} (e : Ext h h') {b : Pa} (hb : Old h b) {vs : List V} (H : Rd h b vs) : Rd h' b vs := by
  unfold Rd at H ⊢
  rw [e.get b hb]
  exact H
def AtL (h : Heap) (b : Pa) (off : Nat) (vs : List V) : Prop := Old h b ∧ ∃ us, Rd h b us ∧ off + vs.length ≤ us.length ∧ (us.drop off).take vs.length = vs
theorem AtL.ext {h h' : Heap} (e : Ext h h') {b : Pa} {off : Nat} {vs : List V} (H : AtL h b off vs) : AtL h' b off vs := by
  obtain ⟨h0, us, h1, h2, h3⟩ := H
  exact ⟨e.old h0, us, e.rd h0 h1, h2, h3⟩
theorem AtL.ld1 {h : Heap} {b : Pa} {off : Nat} {vs : List V} (H : AtL h b off vs) {i : Nat} (hi : i < vs.length) : ld1B (h.get b) (off + i) = some vs[i] := by
  obtain ⟨_, us, h1, h2, h3⟩ := H
  rw [h1.ld1, List.getElem?_eq_getElem (by omega)]
  congr 1
  have : ((us.drop off).take vs.length)[i]? = vs[i]? := by rw [h3]
  rw [List.getElem?_take_of_lt hi, List.getElem?_drop, List.getElem?_eq_getElem (by omega), List.getElem?_eq_getElem hi] at this
  simpa using this
theorem AtL.ldn {h : Heap} {b : Pa} {off : Nat} {vs : List V} (H : AtL h b off vs) {i n : Nat} (hi : i + n ≤ vs.length) : ldnB n (h.get b) (off + i) = some (.agg ((vs.drop i).take n)) := by
  obtain ⟨_, us, h1, h2, h3⟩ := H
  rw [h1.ldn, if_pos (by omega)]
  congr 2
  have : (((us.drop off).take vs.length).drop i).take n = (vs.drop i).take n := by rw [h3]
  rw [← this, List.drop_take, List.drop_drop, List.take_take]
  congr 1
  omega
def SlV (h : Heap) (size : Nat) (v : V) (n : Nat) (vs : List V) : Prop :=
  vs.length = n * size ∧ match v with
    | .nilslice => n = 0
    | .slice b off len _ => len = n ∧ AtL h b off vs
    | .gslice b off len _ => len = n ∧ AtL h b off vs
    | .tslice _ _ _ _ => n = 0
    | _ => False
theorem SlV.ext {h h' : Heap} (e : Ext h h') {size : Nat} {v : V} {n : Nat} {vs : List V} (H : SlV h size v n vs) : SlV h' size v n vs := by
  refine ⟨H.1, ?_⟩
  have H2 := H.2
  cases v <;> simp only at H2 ⊢ <;> first | exact H2 | exact ⟨H2.1, H2.2.ext e⟩
theorem SlV.len {h : Heap} {size : Nat} {v : V} {n : Nat} {vs : List V} (H : SlV h size v n vs) : lenSl v = some (.int .i64 n) := by
  have H2 := H.2
  cases v <;> simp only at H2 <;> first
    | (rw [← H2.1]; rfl)
    | (subst H2; rfl)
    | (exact H2.elim)
theorem SlV.ia {h : Heap} {size : Nat} {v : V} {n : Nat} {vs : List V} (H : SlV h size v n vs) {k : IntKind} {i : Nat} (hi : i < n) :
    ∃ b off, iaV size v (.int k i) = some (.ptr b (off + i * size)) ∧ AtL h b off vs := by
  have H2 := H.2
  cases v <;> simp only at H2 <;> first
    | omega
    | (exact H2.elim)
    | skip
  · rename_i b off len cap
    obtain ⟨rfl, h1⟩ := H2
    refine ⟨b, off, ?_, h1⟩
    rw [ia_sl, if_pos (by omega)]
    simp
  · rename_i b off len cap
    obtain ⟨rfl, h1⟩ := H2
    refine ⟨b, off, ?_, h1⟩
    rw [ia_g, if_pos (by omega)]
    simp
end
end Go.Proofs.YtjbiefneffiogaaGreat.Am

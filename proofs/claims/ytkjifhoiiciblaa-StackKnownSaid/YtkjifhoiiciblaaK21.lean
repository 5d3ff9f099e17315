/- The abstract machine, part K21 (a verified interpreter of the model's code: plain definitions and lemmas, no condition). -/
import Derived.Test.YtkjifhoiiciblaaK20
namespace Go.Proofs.Ytkjifhoiiciblaa.Am
open Go Go.RowKit

def toExit : Ex → Exit
  | .normal => .normal
  | .exit id => .exit id
  | .ret => .ret

/-- what is known of the functions that are taken by what is known of them -/
def PrimOk (C : Ctx) (w0 : World) : Prop :=
  ∀ f p args h v h', C.prim f = some p → p.run args h = .val v h' → (∃ fn, C.P.funcs[f]? = some fn ∧ fn.body.isSome = true) ∧ ∀ E w xs, RelL E args xs → Sim w0 E h w →
    Calls C.P f xs.toArray w fun e w' => ∃ E' x, e = .returned x ∧ E.le E' ∧ Rel E' v x ∧ Sim w0 E' h' w'

/-- a code's weakest precondition; a loop's from where a round begins -/
def wpX (P : Program) (c : Code) (Q : Exit → Act → World → Prop) (a : Act) (w : World) : Prop :=
  match c with
  | .loop x => ∀ (b : Frame) (k : List Item) (cs : List Frame), ∃ e a' w', Q e a' w' ∧ Arrives P (lone (b.at a (.code x :: .inLoop x :: k)) cs w) b k cs e a' w'
  | c => c.wp P Q a w

theorem wpX.wp {P : Program} {c : Code} {Q : Exit → Act → World → Prop} {a : Act} {w : World} (h : wpX P c Q a w) : c.wp P Q a w := by
  cases c with
  | loop x =>
    intro b k cs
    obtain ⟨e, a', w', q, r⟩ := h b k cs
    exact ⟨e, a', w', q, .of_steps (.one step_loop) r⟩
  | _ => exact h

def CodeOk (P : Program) (w0 : World) (nt : Nat) (c : Code) (run : Regs → Heap → CR) : Prop :=
  ∀ r h e r' h', run r h = .ok e r' h' → ∀ E a w, RegRel E nt r a → Sim w0 E h w → ∀ Q : Exit → Act → World → Prop,
    (∀ E' a' w', E.le E' → RegRel E' nt r' a' → Sim w0 E' h' w' → Q (toExit e) a' w') → wpX P c Q a w

def ExecOk (P : Program) (w0 : World) (ex : ExecF) : Prop := ∀ nt c, CodeOk P w0 nt c (ex nt c)

def resOne (tmps : Array Value) : ResultVar → Sem Value
  | .tmp t => pure (tmps.getD t undef)
  | .cell b t => do loadVar t (← asAddr (tmps.getD b undef))

theorem resC_sound {P : Program} {w0 : World} {E : Env} {nt : Nat} {r : Regs} {h : Heap} {a : Act} {w : World} (k : RegRel E nt r a) (s : Sim w0 E h w) : ∀ {l : List ResultVar} {vs : List V}, (resC P nt l).run r h = some vs →
    ∃ xs, RelL E vs xs ∧ (l.mapM (resOne a.tmps)).run P w = .ok xs w
  | [], vs, he => by
    simp only [resC, Option.some.injEq] at he
    subst he
    exact ⟨[], rfl, rfl⟩
  | .tmp t :: l, vs, he => by
    simp only [resC] at he
    cases hc : (Nat.ble t top && Nat.blt t nt) with
    | false => rw [hc] at he; cases he
    | true =>
      rw [hc] at he
      simp only [cond_true] at he
      simp only [Bool.and_eq_true, Nat.ble_eq] at hc
      cases hr : (resC P nt l).run r h with
      | none => rw [hr] at he; cases he
      | some us =>
        rw [hr] at he
        simp only [Option.some.injEq] at he
        subst he
        obtain ⟨xs, h1, h2⟩ := resC_sound k s hr
        refine ⟨_ :: xs, by simp only [RelL]; exact ⟨_, _, rfl, k.reg t hc.1, h1⟩, ?_⟩
        rw [List.mapM_cons, Sem.run_bind]
        simp only [resOne, Sem.run_pure, Result.andThen_ok, Sem.run_bind, h2]
  | .cell b t :: l, vs, he => by
    simp only [resC] at he
    cases hc : (Nat.ble b top && Nat.blt b nt) with
    | false => rw [hc] at he; cases he
    | true =>
      rw [hc] at he
      simp only [cond_true] at he
      simp only [Bool.and_eq_true, Nat.ble_eq] at hc
      cases hv : (loadC P t).run h (T.get .bad (pa b) r) with
      | none => rw [hv] at he; cases he
      | some v =>
        rw [hv] at he
        simp only at he
        cases hr : (resC P nt l).run r h with
        | none => rw [hr] at he; cases he
        | some us =>
          rw [hr] at he
          simp only [Option.some.injEq] at he
          subst he
          obtain ⟨xs, h1, h2⟩ := resC_sound k s hr
          obtain ⟨Y, _, hR, A, hA, hY⟩ := loadC_sound (P := P) s (k.reg b hc.1) hv
          refine ⟨Y :: xs, by simp only [RelL]; exact ⟨_, _, rfl, hR, h1⟩, ?_⟩
          rw [List.mapM_cons, Sem.run_bind]
          simp only [resOne, hA, asAddr, Sem.run_bind, Sem.run_pure, Result.andThen_ok, hY, h2]

theorem argRegs_get : ∀ (args : List V) (i : Nat) (t : Regs) (j : Nat), i + args.length ≤ top + 1 → j ≤ top →
    T.get .bad (pa j) (argRegs i args t) = if i ≤ j ∧ j < i + args.length then (args[j - i]?).getD .bad else T.get .bad (pa j) t
  | [], i, t, j, _, _ => by
    have : ¬ (i ≤ j ∧ j < i) := by omega
    simp [argRegs, this]
  | v :: vs, i, t, j, h, hj => by
    simp only [List.length_cons] at h ⊢
    rw [argRegs, argRegs_get vs _ _ _ (by omega) hj]
    by_cases h1 : i + 1 ≤ j ∧ j < i + 1 + vs.length
    · rw [if_pos h1, if_pos (by omega)]
      have : j - i = (j - (i + 1)) + 1 := by omega
      rw [this, List.getElem?_cons_succ]
    · rw [if_neg h1, T.get_put]
      by_cases h2 : j = i
      · subst h2; rw [if_pos rfl, if_pos (by omega)]; simp
      · rw [if_neg (fun e => h2 (pa_inj (by omega) hj e).symm), if_neg (by omega)]

theorem oneOf_rel {E : Env} {vs : List V} {xs : List Value} (h : RelL E vs xs) (fn : Func) (a : Act) (P : Program) (w : World)
    (hr : (fn.results.toList.mapM (resOne a.tmps)).run P w = .ok xs w) : ∃ x, (results fn a.tmps).run P w = .ok x w ∧ Rel E (oneOf vs) x := by
  have hmap : (fn.results.mapM (resOne a.tmps)).run P w = .ok xs.toArray w := by
    rw [Array.mapM_eq_mapM_toList, Sem.run_map, hr]
    rfl
  have hdef : results fn a.tmps = (do
      let vs ← fn.results.mapM (resOne a.tmps)
      pure (if h : vs.size = 1 then vs[0] else .tuple vs)) := by
    unfold results
    have : (fun x => match x with
      | ResultVar.tmp t => (pure (a.tmps.getD t undef) : Sem Value)
      | ResultVar.cell b t => do loadVar t (← asAddr (a.tmps.getD b undef))) = resOne a.tmps := by
      funext x
      cases x <;> rfl
    rw [← this]
    rfl
  have hres : (results fn a.tmps).run P w = .ok (if h : xs.toArray.size = 1 then xs.toArray[0] else .tuple xs.toArray) w := by
    rw [hdef, Sem.run_bind, hmap]
    rfl
  refine ⟨_, hres, ?_⟩
  match vs, h with
  | [], h =>
    simp only [RelL] at h
    subst h
    simp only [oneOf, Rel]
    exact ⟨#[], rfl, rfl⟩
  | [v], h =>
    simp only [RelL] at h
    obtain ⟨y, ys, rfl, hy, rfl⟩ := h
    simpa [oneOf] using hy
  | v :: u :: vs, h =>
    have hl := h.length
    have hne : ¬ xs.toArray.size = 1 := by simp at hl ⊢; omega
    rw [dif_neg hne]
    simp only [oneOf, Rel]
    exact ⟨_, rfl, by simpa using h⟩

section
variable {C : Ctx} {w0 : World}

theorem fnC_body {f : FuncId} {ex : ExecF} {args : List V} {h h' : Heap} {v : V} (he : (fnC C.P f).run ex args h = .val v h') : ∃ fn, C.P.funcs[f]? = some fn ∧ fn.body.isSome = true := by
  unfold fnC at he
  cases hf : C.P.funcs[f]? with
  | none => rw [hf] at he; cases he
  | some fn =>
    rw [hf] at he
    simp only at he
    cases hb : fn.body with
    | none => rw [hb] at he; cases he
    | some c => exact ⟨fn, rfl, by rw [hb]; rfl⟩

theorem callBody (hP : PrimOk C w0) (ex : ExecF) : CallBody C.P (callWith C ex) := by
  intro f args h v h' he
  unfold callWith fnP at he
  cases hp : C.prim f with
  | some p => rw [hp] at he; exact (hP f p args h v h' hp he).1
  | none => rw [hp] at he; exact fnC_body he

theorem callOk (hP : PrimOk C w0) {ex : ExecF} (hex : ExecOk C.P w0 ex) : CallOk C.P w0 (callWith C ex) := by
  intro f args h v h' he E w xs hl s
  unfold callWith fnP at he
  cases hp : C.prim f with
  | some p => rw [hp] at he; exact (hP f p args h v h' hp he).2 E w xs hl s
  | none =>
    rw [hp] at he
    simp only at he
    unfold fnC at he
    cases hf : C.P.funcs[f]? with
    | none => rw [hf] at he; cases he
    | some fn =>
      rw [hf] at he
      simp only at he
      cases hb : fn.body with
      | none => rw [hb] at he; cases he
      | some c =>
        rw [hb] at he
        simp only at he
        cases hnt : Nat.ble fn.ntmps top with
        | false => rw [hnt] at he; cases he
        | true =>
          rw [hnt] at he
          simp only [cond_true, fnRun] at he
          rw [Nat.ble_eq] at hnt
          obtain ⟨hal, he1⟩ := cond_val he
          rw [Nat.ble_eq] at hal
          cases hrun : ex fn.ntmps c (argRegs 0 args .e) h with
          | fail => rw [hrun] at he1; cases he1
          | ok e r' h1 =>
            rw [hrun] at he1
            simp only at he1
            have hlen := hl.length
            have k : RegRel E fn.ntmps (argRegs 0 args .e) { tmps := xs.toArray ++ Array.replicate (fn.ntmps - xs.toArray.size) undef, defers := [] } := by
              refine ⟨by simp; omega, rfl, fun t ht => ?_⟩
              rw [argRegs_get _ _ _ _ (by omega) ht]
              by_cases hlt : t < args.length
              · rw [if_pos (by omega), Nat.sub_zero, List.getElem?_eq_getElem hlt]
                obtain ⟨y, hy, hR⟩ := hl.get t args[t] (List.getElem?_eq_getElem hlt)
                simp only [Option.getD_some]
                have : (xs.toArray ++ Array.replicate (fn.ntmps - xs.toArray.size) undef).getD t undef = y := by
                  rw [Array.getD_eq_getD_getElem?, Array.getElem?_append_left (by simp; omega)]
                  simp [hy]
                rw [this]; exact hR
              · rw [if_neg (by omega)]
                simp [Rel]
            refine calls_of_wp hf hb ?_
            have post : ∀ vs, (resC C.P fn.ntmps fn.results.toList).run r' h1 = some vs → oneOf vs = v → h1 = h' → ∀ E' a' w', E.le E' → RegRel E' fn.ntmps r' a' → Sim w0 E' h1 w' →
                a'.defers = [] ∧ ∃ x, (results fn a'.tmps).run C.P w' = .ok x w' ∧ ∃ E2 x2, Ending.returned x = .returned x2 ∧ E.le E2 ∧ Rel E2 v x2 ∧ Sim w0 E2 h' w' := by
              intro vs hv hov hhh E' a' w' q1 q2 q3
              obtain ⟨ys, p1, p2⟩ := resC_sound (P := C.P) q2 q3 hv
              obtain ⟨x, p3, p4⟩ := oneOf_rel p1 fn a' C.P w' p2
              exact ⟨q2.defers, x, p3, E', x, rfl, q1, hov ▸ p4, hhh ▸ q3⟩
            have fin : ∀ e', e = e' → (e' = .normal ∨ e' = .ret) → (match (resC C.P fn.ntmps fn.results.toList).run r' h1 with
                | some vs => OR.val (oneOf vs) h1
                | none => .fail) = .val v h' → c.wp C.P (bodyPost C.P fn fun e w' => ∃ E' x, e = .returned x ∧ E.le E' ∧ Rel E' v x ∧ Sim w0 E' h' w') { tmps := xs.toArray ++ Array.replicate (fn.ntmps - xs.toArray.size) undef, defers := [] } w := by
              intro e' hee hor hres
              subst hee
              cases hv : (resC C.P fn.ntmps fn.results.toList).run r' h1 with
              | none => rw [hv] at hres; cases hres
              | some vs =>
                rw [hv] at hres
                simp only [OR.val.injEq] at hres
                refine (hex fn.ntmps c _ _ _ _ _ hrun E _ w k s _ fun E' a' w' q1 q2 q3 => ?_).wp
                have := post vs hv hres.1 hres.2 E' a' w' q1 q2 q3
                rcases hor with rfl | rfl <;> exact this
            cases e with
            | normal => exact fin _ rfl (.inl rfl) he1
            | ret => exact fin _ rfl (.inr rfl) he1
            | exit id => cases he1

theorem codeC_sound (hM : C.P.follows .mixedOrders = true) (hN : NamesOk C.P) (hP : PrimOk C w0) {ex : ExecF} (hex : ExecOk C.P w0 ex) (nt : Nat) : ∀ c : Code, CodeOk C.P w0 nt c ((codeC C nt c).run ex) := by
  have hcall := callOk hP hex
  have hbody := callBody hP ex
  intro c
  induction c with
  | skip =>
    intro r h e r' h' he E a w k s Q hQ
    simp only [codeC, CR.ok.injEq] at he
    obtain ⟨rfl, rfl, rfl⟩ := he
    exact wp_skip (hQ E a w (Env.le.refl E) k s)
  | label l =>
    intro r h e r' h' he E a w k s Q hQ
    simp only [codeC, CR.ok.injEq] at he
    obtain ⟨rfl, rfl, rfl⟩ := he
    exact wp_label (hQ E a w (Env.le.refl E) k s)
  | exit id =>
    intro r h e r' h' he E a w k s Q hQ
    simp only [codeC, CR.ok.injEq] at he
    obtain ⟨rfl, rfl, rfl⟩ := he
    exact wp_exit (hQ E a w (Env.le.refl E) k s)
  | ret =>
    intro r h e r' h' he E a w k s Q hQ
    simp only [codeC, CR.ok.injEq] at he
    obtain ⟨rfl, rfl, rfl⟩ := he
    exact wp_ret (hQ E a w (Env.le.refl E) k s)
  | region id ops draw =>
    intro r h e r' h' he E a w k s Q hQ
    cases draw with
    | true =>
      simp only [codeC, cond_true, regRun] at he
      cases hr : (drawC C.P nt ops).run (callWith C ex) r h with
      | fail => rw [hr] at he; cases he
      | ok r1 h1 =>
        rw [hr] at he
        simp only [CR.ok.injEq] at he
        obtain ⟨rfl, rfl, rfl⟩ := he
        exact drawC_sound hM hN hcall hbody hr k s hQ
    | false =>
      simp only [codeC, cond_false, regRun] at he
      cases hr : (opsC C.P nt ops ops.toList).run (callWith C ex) r h with
      | fail => rw [hr] at he; cases he
      | ok r1 h1 =>
        rw [hr] at he
        simp only [CR.ok.injEq] at he
        obtain ⟨rfl, rfl, rfl⟩ := he
        refine wp_region ?_
        have := opsC_sound (Q := Q) hN hcall hbody ops.toList 0 (fun j => by simp) E r r1 h h1 a w hr k s hQ
        rw [List.range_eq_range']
        simpa using this
  | seq x y ihx ihy =>
    intro r h e r' h' he E a w k s Q hQ
    simp only [codeC, seqCode] at he
    cases hr : (codeC C nt x).run ex r h with
    | fail => rw [hr] at he; cases he
    | ok e1 r1 h1 =>
      rw [hr] at he
      simp only at he
      refine wp_seq (ihx r h e1 r1 h1 hr E a w k s _ fun E' a' w' q1 q2 q3 => ?_).wp
      cases e1 with
      | normal => exact (ihy r1 h1 e r' h' he E' a' w' q2 q3 Q fun E2 a2 w2 p1 p2 p3 => hQ E2 a2 w2 (q1.trans p1) p2 p3).wp
      | exit id => simp only [CR.ok.injEq] at he; obtain ⟨rfl, rfl, rfl⟩ := he; exact hQ E' a' w' q1 q2 q3
      | ret => simp only [CR.ok.injEq] at he; obtain ⟨rfl, rfl, rfl⟩ := he; exact hQ E' a' w' q1 q2 q3
  | cond c x y ihx ihy =>
    intro r h e r' h' he E a w k s Q hQ
    simp only [codeC, condCode] at he
    have hc := evC_sound k c
    cases hv : (evC c).run r <;> rw [hv] at he hc <;> simp only at he <;> try (cases he; done)
    rename_i t
    simp only [Rel] at hc
    cases t with
    | true => exact wp_cond_true hc (ihx r h e r' h' he E a w k s Q hQ).wp
    | false => exact wp_cond_false hc (ihy r h e r' h' he E a w k s Q hQ).wp
  | block id x ih =>
    intro r h e r' h' he E a w k s Q hQ
    simp only [codeC, blockCode] at he
    cases hr : (codeC C nt x).run ex r h with
    | fail => rw [hr] at he; cases he
    | ok e1 r1 h1 =>
      rw [hr] at he
      simp only at he
      refine wp_block (ih r h e1 r1 h1 hr E a w k s _ fun E' a' w' q1 q2 q3 => ?_).wp
      cases e1 with
      | normal => simp only [CR.ok.injEq] at he; obtain ⟨rfl, rfl, rfl⟩ := he; exact hQ E' a' w' q1 q2 q3
      | ret => simp only [CR.ok.injEq] at he; obtain ⟨rfl, rfl, rfl⟩ := he; exact hQ E' a' w' q1 q2 q3
      | exit i =>
        simp only [cond_beq] at he
        simp only [toExit, Exit.inBlock]
        by_cases hi : i = id
        · rw [if_pos hi] at he ⊢
          simp only [CR.ok.injEq] at he; obtain ⟨rfl, rfl, rfl⟩ := he; exact hQ E' a' w' q1 q2 q3
        · rw [if_neg hi] at he ⊢
          simp only [CR.ok.injEq] at he; obtain ⟨rfl, rfl, rfl⟩ := he; exact hQ E' a' w' q1 q2 q3
  | loop x ih =>
    intro r h e r' h' he E a w k s Q hQ
    simp only [codeC, loopCode] at he
    cases hr : (codeC C nt x).run ex r h with
    | fail => rw [hr] at he; cases he
    | ok e1 r1 h1 =>
      rw [hr] at he
      simp only at he
      intro b kk cs
      have body := (ih r h e1 r1 h1 hr E a w k s
        (fun e' a' w' => e' = toExit e1 ∧ ∃ E', E.le E' ∧ RegRel E' nt r1 a' ∧ Sim w0 E' h1 w') (fun E' a' w' q1 q2 q3 => ⟨rfl, E', q1, q2, q3⟩)).wp b (.inLoop x :: kk) cs
      obtain ⟨e2, a2, w2, ⟨rfl, E2, q1, q2, q3⟩, harr⟩ := body
      cases e1 with
      | normal =>
        have next := hex nt (.loop x) r1 h1 e r' h' he E2 a2 w2 q2 q3 Q (fun E4 a4 w4 t1 t2 t3 => hQ E4 a4 w4 (q1.trans t1) t2 t3)
        obtain ⟨e3, a3, w3, p1, p2⟩ := next b kk cs
        exact ⟨e3, a3, w3, p1, .of_steps (Steps.trans harr (.one step_inLoop)) p2⟩
      | exit id =>
        simp only [CR.ok.injEq] at he; obtain ⟨rfl, rfl, rfl⟩ := he
        exact ⟨.exit id, a2, w2, hQ E2 a2 w2 q1 q2 q3, .pass (x := .inLoop x) rfl (fun _ _ => .inl (by simp)) harr⟩
      | ret =>
        simp only [CR.ok.injEq] at he; obtain ⟨rfl, rfl, rfl⟩ := he
        exact ⟨.ret, a2, w2, hQ E2 a2 w2 q1 q2 q3, .pass (x := .inLoop x) rfl (fun _ _ => .inl (by simp)) harr⟩
  | scope x ih => intro r h e r' h' he; simp [codeC] at he
  | rangeFunc f ps x y _ _ => intro r h e r' h' he; simp [codeC] at he
  | goto l => intro r h e r' h' he; simp [codeC] at he
  | refuse why => intro r h e r' h' he; simp [codeC] at he

theorem exec_ok (hM : C.P.follows .mixedOrders = true) (hN : NamesOk C.P) (hP : PrimOk C w0) : ∀ n, ExecOk C.P w0 (exec C n)
  | 0 => fun nt c r h e r' h' he => by simp [exec] at he
  | n + 1 => fun nt c => codeC_sound hM hN hP (exec_ok hM hN hP n) nt c

/-- A CALL THAT THE MACHINE ENDS: the program ends it so. -/
theorem callN_sound (hM : C.P.follows .mixedOrders = true) (hN : NamesOk C.P) (hP : PrimOk C w0) (n : Nat) : CallOk C.P w0 (callN C n) := callOk hP (exec_ok hM hN hP n)

theorem sim_empty (w : World) : Sim w (fun _ => none) Heap.empty w := by
  refine ⟨fun b => ?_, (fun b b' p p' _ _ h => by cases h), fun _ _ _ => rfl, Below.refl _ _⟩
  have : Heap.empty.get b = .dead := by simp [Heap.get, Heap.empty]
  rw [this]
  trivial

/-- a call without memory that the machine answers by true -/
theorem truly_sound (hM : C.P.follows .mixedOrders = true) (hN : NamesOk C.P) {w : World} (hP : PrimOk C w) {n : Nat} {f : FuncId} (h : truly C n f [] = true) : Calls C.P f #[] w fun e w' => e = .returned (.bool true) ∧ Below w.heap.size w w' := by
  unfold truly at h
  cases hc : callN C n f [] Heap.empty with
  | fail => rw [hc] at h; cases h
  | val v hh =>
    rw [hc] at h
    simp only at h
    cases v <;> simp only at h <;> try (cases h; done)
    subst h
    refine (callN_sound hM hN hP n f [] Heap.empty _ hh hc (fun _ => none) w [] rfl (sim_empty w)).mono fun e w' hq => ?_
    obtain ⟨E', x, rfl, _, q2, q3⟩ := hq
    simp only [Rel] at q2
    subst q2
    exact ⟨rfl, q3.frame⟩
end
end Go.Proofs.Ytkjifhoiiciblaa.Am

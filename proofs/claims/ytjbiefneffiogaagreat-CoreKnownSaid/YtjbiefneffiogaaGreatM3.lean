/- The abstract machine and its walks (a verified interpreter of the model's code: plain definitions and lemmas, no condition). -/
import Derived.Test.YtjbiefneffiogaaGreatM2
import Derived.Scope
import Derived.IntWalk
import Derived.ChangeArms
import Derived.DataReads
import Derived.ChangeBears
import Derived.Carry
import Derived.OpenShut
import Derived.ChangeSame
import Derived.Handed
import Derived.HandedShaped
import Derived.Shelf.SlIterI.Sorted
import Derived.Shelf.SlIterI.Nil
import Derived.WideShapes

namespace Go.Proofs.YtjbiefneffiogaaGreat.Am
variable [Lay]
set_option linter.unusedSectionVars false
set_option linter.unusedVariables false
open Go Go.RowKit

def toExit : Ex → Exit
  | .normal => .normal
  | .exit id => .exit id
  | .ret => .ret

/-- what is known of the functions that are taken by what is known of them -/
def PrimOk (C : Ctx) : Prop :=
  ∀ f p args h v h', C.prim f = some p → p.run args h = .val v h' → (∃ fn, C.P.funcs[f]? = some fn ∧ fn.body.isSome = true) ∧ ∀ (w0 : Fr) E w xs, RelL E args xs → Sim w0 E h w →
    Calls C.P f xs.toArray w fun e w' => ∃ E' x, e = .returned x ∧ E.le E' ∧ Rel E' v x ∧ Sim w0 E' h' w'

/-- a code's weakest precondition; a loop's from where a round begins -/
def wpX (P : Program) (c : Code) (Q : Exit → Act → World → Prop) (a : Act) (w : World) : Prop :=
  match c with
  | .loop x => ∀ (b : Frame) (k : List Item) (cs : List Frame), ∃ e a' w', Q e a' w' ∧ Arrives P (lone (b.at a (.code x :: .inLoop x :: k)) cs w) b k cs e a' w'
  | c => c.wp P Q a w

theorem wpX.wp {P : Program} {c : Code} {Q : Exit → Act → World → Prop} {a : Act} {w : World} (h : wpX P c Q a w) : c.wp P Q a w := by
  cases c with
  | loop x =>
    intro b k cs
    obtain ⟨e, a', w', q, r⟩ := h b k cs
    exact ⟨e, a', w', q, .of_steps (.one step_loop) r⟩
  | _ => exact h

def CodeOk (P : Program) (nt : Nat) (c : Code) (run : Regs → Heap → CR) : Prop :=
  ∀ (w0 : Fr) r h e r' h', run r h = .ok e r' h' → ∀ E a w, RegRel E nt r a → Sim w0 E h w → ∀ Q : Exit → Act → World → Prop,
    (∀ E' a' w', E.le E' → RegRel E' nt r' a' → Sim w0 E' h' w' → Q (toExit e) a' w') → wpX P c Q a w

def ExecOk (P : Program) (ex : ExecF) : Prop := ∀ nt c, CodeOk P nt c (ex nt c)

def resOne (tmps : Array Value) : ResultVar → Sem Value
  | .tmp t => pure (tmps.getD t undef)
  | .cell b t => do loadVar t (← asAddr (tmps.getD b undef))

theorem resC_sound {P : Program} {w0 : Fr} {E : Env} {nt : Nat} {r : Regs} {h : Heap} {a : Act} {w : World} (k : RegRel E nt r a) (s : Sim w0 E h w) : ∀ {l : List ResultVar} {vs : List V}, (resC P nt l).run r h = some vs →
    ∃ xs, RelL E vs xs ∧ (l.mapM (resOne a.tmps)).run P w = .ok xs w
  | [], vs, he => by
    simp only [resC, Option.some.injEq] at he
    subst he
    exact ⟨[], rfl, rfl⟩
  | .tmp t :: l, vs, he => by
    simp only [resC] at he
    cases hc : (Nat.ble t top && Nat.blt t nt) with
    | false => rw [hc] at he; cases he
    | true =>
      rw [hc] at he
      simp only [cond_true] at he
      simp only [Bool.and_eq_true, Nat.ble_eq] at hc
      cases hr : (resC P nt l).run r h with
      | none => rw [hr] at he; cases he
      | some us =>
        rw [hr] at he
        simp only [Option.some.injEq] at he
        subst he
        obtain ⟨xs, h1, h2⟩ := resC_sound k s hr
        refine ⟨_ :: xs, by simp only [RelL]; exact ⟨_, _, rfl, k.reg t hc.1, h1⟩, ?_⟩
        rw [List.mapM_cons, Sem.run_bind]
        simp only [resOne, Sem.run_pure, Result.andThen_ok, Sem.run_bind, h2]
  | .cell b t :: l, vs, he => by
    simp only [resC] at he
    cases hc : (Nat.ble b top && Nat.blt b nt) with
    | false => rw [hc] at he; cases he
    | true =>
      rw [hc] at he
      simp only [cond_true] at he
      simp only [Bool.and_eq_true, Nat.ble_eq] at hc
      cases hv : (loadC P t).run h (T.get .bad (pa b) r) with
      | none => rw [hv] at he; cases he
      | some v =>
        rw [hv] at he
        simp only at he
        cases hr : (resC P nt l).run r h with
        | none => rw [hr] at he; cases he
        | some us =>
          rw [hr] at he
          simp only [Option.some.injEq] at he
          subst he
          obtain ⟨xs, h1, h2⟩ := resC_sound k s hr
          obtain ⟨Y, _, hR, A, hA, hY⟩ := loadC_sound (P := P) s (k.reg b hc.1) hv
          refine ⟨Y :: xs, by simp only [RelL]; exact ⟨_, _, rfl, hR, h1⟩, ?_⟩
          rw [List.mapM_cons, Sem.run_bind]
          simp only [resOne, hA, asAddr, Sem.run_bind, Sem.run_pure, Result.andThen_ok, hY, h2]

theorem argRegs_get : ∀ (args : List V) (i : Nat) (t : Regs) (j : Nat), i + args.length ≤ top + 1 → j ≤ top →
    T.get .bad (pa j) (argRegs i args t) = if i ≤ j ∧ j < i + args.length then (args[j - i]?).getD .bad else T.get .bad (pa j) t
  | [], i, t, j, _, _ => by
    have : ¬ (i ≤ j ∧ j < i) := by omega
    simp [argRegs, this]
  | v :: vs, i, t, j, h, hj => by
    simp only [List.length_cons] at h ⊢
    rw [argRegs, argRegs_get vs _ _ _ (by omega) hj]
    by_cases h1 : i + 1 ≤ j ∧ j < i + 1 + vs.length
    · rw [if_pos h1, if_pos (by omega)]
      have : j - i = (j - (i + 1)) + 1 := by omega
      rw [this, List.getElem?_cons_succ]
    · rw [if_neg h1, T.get_put]
      by_cases h2 : j = i
      · subst h2; rw [if_pos rfl, if_pos (by omega)]; simp
      · rw [if_neg (fun e => h2 (pa_inj e).symm), if_neg (by omega)]

theorem oneOf_rel {E : Env} {vs : List V} {xs : List Value} (h : RelL E vs xs) (fn : Func) (a : Act) (P : Program) (w : World)
    (hr : (fn.results.toList.mapM (resOne a.tmps)).run P w = .ok xs w) : ∃ x, (results fn a.tmps).run P w = .ok x w ∧ Rel E (oneOf vs) x := by
  have hmap : (fn.results.mapM (resOne a.tmps)).run P w = .ok xs.toArray w := by
    rw [Array.mapM_eq_mapM_toList, Sem.run_map, hr]
    rfl
  have hdef : results fn a.tmps = (do
      let vs ← fn.results.mapM (resOne a.tmps)
      pure (if h : vs.size = 1 then vs[0] else .tuple vs)) := by
    unfold results
    have : (fun x => match x with
      | ResultVar.tmp t => (pure (a.tmps.getD t undef) : Sem Value)
      | ResultVar.cell b t => do loadVar t (← asAddr (a.tmps.getD b undef))) = resOne a.tmps := by
      funext x
      cases x <;> rfl
    rw [← this]
    rfl
  have hres : (results fn a.tmps).run P w = .ok (if h : xs.toArray.size = 1 then xs.toArray[0] else .tuple xs.toArray) w := by
    rw [hdef, Sem.run_bind, hmap]
    rfl
  refine ⟨_, hres, ?_⟩
  match vs, h with
  | [], h =>
    simp only [RelL] at h
    subst h
    simp only [oneOf, Rel]
    exact ⟨#[], rfl, rfl⟩
  | [v], h =>
    simp only [RelL] at h
    obtain ⟨y, ys, rfl, hy, rfl⟩ := h
    simpa [oneOf] using hy
  | v :: u :: vs, h =>
    have hl := h.length
    have hne : ¬ xs.toArray.size = 1 := by simp at hl ⊢; omega
    rw [dif_neg hne]
    simp only [oneOf, Rel]
    exact ⟨_, rfl, by simpa using h⟩

section
variable {C : Ctx}

theorem fnC_body {f : FuncId} {ex : ExecF} {args : List V} {h h' : Heap} {v : V} (he : (fnC C.P f).run ex args h = .val v h') : ∃ fn, C.P.funcs[f]? = some fn ∧ fn.body.isSome = true := by
  unfold fnC at he
  cases hf : C.P.funcs[f]? with
  | none => rw [hf] at he; cases he
  | some fn =>
    rw [hf] at he
    simp only at he
    cases hb : fn.body with
    | none => rw [hb] at he; cases he
    | some c => exact ⟨fn, rfl, by rw [hb]; rfl⟩

theorem callBody (hP : PrimOk C) (ex : ExecF) : CallBody C.P (callWith C ex) := by
  intro f args h v h' he
  trivial
theorem callHas (hP : PrimOk C) (ex : ExecF) {f : FuncId} {args : List V} {h h' : Heap} {v : V} (he : callWith C ex f args h = .val v h') : ∃ fn, C.P.funcs[f]? = some fn ∧ fn.body.isSome = true := by
  unfold callWith fnP at he
  cases hp : C.prim f with
  | some p => rw [hp] at he; exact (hP f p args h v h' hp he).1
  | none => rw [hp] at he; exact fnC_body he

theorem callOk (hP : PrimOk C) {ex : ExecF} (hex : ExecOk C.P ex) : CallOk C.P (callWith C ex) := by
  intro w0 f args h v h' he E w xs hl s
  unfold callWith fnP at he
  cases hp : C.prim f with
  | some p => rw [hp] at he; exact .inl ⟨(hP f p args h v h' hp he).1, (hP f p args h v h' hp he).2 w0 E w xs hl s⟩
  | none =>
    rw [hp] at he
    simp only at he
    refine .inl ⟨fnC_body he, ?_⟩
    unfold fnC at he
    cases hf : C.P.funcs[f]? with
    | none => rw [hf] at he; cases he
    | some fn =>
      rw [hf] at he
      simp only at he
      cases hb : fn.body with
      | none => rw [hb] at he; cases he
      | some c =>
        rw [hb] at he
        simp only at he
        cases hnt : Nat.ble fn.ntmps top with
        | false => rw [hnt] at he; cases he
        | true =>
          rw [hnt] at he
          simp only [cond_true, fnRun] at he
          rw [Nat.ble_eq] at hnt
          obtain ⟨hal, he1⟩ := cond_val he
          rw [Nat.ble_eq] at hal
          cases hrun : ex fn.ntmps c (argRegs 0 args .e) h with
          | fail => rw [hrun] at he1; cases he1
          | ok e r' h1 =>
            rw [hrun] at he1
            simp only at he1
            have hlen := hl.length
            have k : RegRel E fn.ntmps (argRegs 0 args .e) { tmps := xs.toArray ++ Array.replicate (fn.ntmps - xs.toArray.size) undef, defers := [] } := by
              refine ⟨by simp; omega, rfl, fun t ht => ?_⟩
              rw [argRegs_get _ _ _ _ (by omega) ht]
              by_cases hlt : t < args.length
              · rw [if_pos (by omega), Nat.sub_zero, List.getElem?_eq_getElem hlt]
                obtain ⟨y, hy, hR⟩ := hl.get t args[t] (List.getElem?_eq_getElem hlt)
                simp only [Option.getD_some]
                have : (xs.toArray ++ Array.replicate (fn.ntmps - xs.toArray.size) undef).getD t undef = y := by
                  rw [Array.getD_eq_getD_getElem?, Array.getElem?_append_left (by simp; omega)]
                  simp [hy]
                rw [this]; exact hR
              · rw [if_neg (by omega)]
                simp [Rel]
            refine calls_of_wp hf hb ?_
            have post : ∀ vs, (resC C.P fn.ntmps fn.results.toList).run r' h1 = some vs → oneOf vs = v → h1 = h' → ∀ E' a' w', E.le E' → RegRel E' fn.ntmps r' a' → Sim w0 E' h1 w' →
                a'.defers = [] ∧ ∃ x, (results fn a'.tmps).run C.P w' = .ok x w' ∧ ∃ E2 x2, Ending.returned x = .returned x2 ∧ E.le E2 ∧ Rel E2 v x2 ∧ Sim w0 E2 h' w' := by
              intro vs hv hov hhh E' a' w' q1 q2 q3
              obtain ⟨ys, p1, p2⟩ := resC_sound (P := C.P) q2 q3 hv
              obtain ⟨x, p3, p4⟩ := oneOf_rel p1 fn a' C.P w' p2
              exact ⟨q2.defers, x, p3, E', x, rfl, q1, hov ▸ p4, hhh ▸ q3⟩
            have fin : ∀ e', e = e' → (e' = .normal ∨ e' = .ret) → (match (resC C.P fn.ntmps fn.results.toList).run r' h1 with
                | some vs => OR.val (oneOf vs) h1
                | none => .fail) = .val v h' → c.wp C.P (bodyPost C.P fn fun e w' => ∃ E' x, e = .returned x ∧ E.le E' ∧ Rel E' v x ∧ Sim w0 E' h' w') { tmps := xs.toArray ++ Array.replicate (fn.ntmps - xs.toArray.size) undef, defers := [] } w := by
              intro e' hee hor hres
              subst hee
              cases hv : (resC C.P fn.ntmps fn.results.toList).run r' h1 with
              | none => rw [hv] at hres; cases hres
              | some vs =>
                rw [hv] at hres
                simp only [OR.val.injEq] at hres
                refine (hex fn.ntmps c w0 _ _ _ _ _ hrun E _ w k s _ fun E' a' w' q1 q2 q3 => ?_).wp
                have := post vs hv hres.1 hres.2 E' a' w' q1 q2 q3
                rcases hor with rfl | rfl <;> exact this
            cases e with
            | normal => exact fin _ rfl (.inl rfl) he1
            | ret => exact fin _ rfl (.inr rfl) he1
            | exit id => cases he1

theorem codeC_sound (hM : C.P.follows .mixedOrders = true) (hN : NamesOk C.P) (hP : PrimOk C) {ex : ExecF} (hex : ExecOk C.P ex) (nt : Nat) : ∀ c : Code, CodeOk C.P nt c ((codeC C nt c).run ex) := by
  have hcall := callOk hP hex
  have hbody := callBody hP ex
  intro c
  induction c with
  | skip =>
    intro w0 r h e r' h' he E a w k s Q hQ
    simp only [codeC, CR.ok.injEq] at he
    obtain ⟨rfl, rfl, rfl⟩ := he
    exact wp_skip (hQ E a w (Env.le.refl E) k s)
  | label l =>
    intro w0 r h e r' h' he E a w k s Q hQ
    simp only [codeC, CR.ok.injEq] at he
    obtain ⟨rfl, rfl, rfl⟩ := he
    exact wp_label (hQ E a w (Env.le.refl E) k s)
  | exit id =>
    intro w0 r h e r' h' he E a w k s Q hQ
    simp only [codeC, CR.ok.injEq] at he
    obtain ⟨rfl, rfl, rfl⟩ := he
    exact wp_exit (hQ E a w (Env.le.refl E) k s)
  | ret =>
    intro w0 r h e r' h' he E a w k s Q hQ
    simp only [codeC, CR.ok.injEq] at he
    obtain ⟨rfl, rfl, rfl⟩ := he
    exact wp_ret (hQ E a w (Env.le.refl E) k s)
  | region id ops draw =>
    intro w0 r h e r' h' he E a w k s Q hQ
    cases draw with
    | true =>
      simp only [codeC, cond_true, regRun] at he
      cases hr : (drawC C.P nt ops).run (callWith C ex) r h with
      | fail => rw [hr] at he; cases he
      | ok r1 h1 =>
        rw [hr] at he
        simp only [CR.ok.injEq] at he
        obtain ⟨rfl, rfl, rfl⟩ := he
        exact drawC_sound hM hN hcall hbody hr k s hQ
    | false =>
      simp only [codeC, cond_false, regRun] at he
      cases hr : (opsC C.P nt ops ops.toList).run (callWith C ex) r h with
      | fail => rw [hr] at he; cases he
      | ok r1 h1 =>
        rw [hr] at he
        simp only [CR.ok.injEq] at he
        obtain ⟨rfl, rfl, rfl⟩ := he
        refine wp_region ?_
        have := opsC_sound (Q := Q) hN hcall hbody ops.toList 0 (fun j => by simp) E r r1 h h1 a w hr k s hQ
        rw [List.range_eq_range']
        simpa using this
  | seq x y ihx ihy =>
    intro w0 r h e r' h' he E a w k s Q hQ
    simp only [codeC, seqCode] at he
    cases hr : (codeC C nt x).run ex r h with
    | fail => rw [hr] at he; cases he
    | ok e1 r1 h1 =>
      rw [hr] at he
      simp only at he
      refine wp_seq (ihx w0 r h e1 r1 h1 hr E a w k s _ fun E' a' w' q1 q2 q3 => ?_).wp
      cases e1 with
      | normal => exact (ihy w0 r1 h1 e r' h' he E' a' w' q2 q3 Q fun E2 a2 w2 p1 p2 p3 => hQ E2 a2 w2 (q1.trans p1) p2 p3).wp
      | exit id => simp only [CR.ok.injEq] at he; obtain ⟨rfl, rfl, rfl⟩ := he; exact hQ E' a' w' q1 q2 q3
      | ret => simp only [CR.ok.injEq] at he; obtain ⟨rfl, rfl, rfl⟩ := he; exact hQ E' a' w' q1 q2 q3
  | cond c x y ihx ihy =>
    intro w0 r h e r' h' he E a w k s Q hQ
    simp only [codeC, condCode] at he
    have hc := evC_sound k c
    cases hv : (evC c).run r <;> rw [hv] at he hc <;> simp only at he <;> try (cases he; done)
    rename_i t
    simp only [Rel] at hc
    cases t with
    | true => exact wp_cond_true hc (ihx w0 r h e r' h' he E a w k s Q hQ).wp
    | false => exact wp_cond_false hc (ihy w0 r h e r' h' he E a w k s Q hQ).wp
  | block id x ih =>
    intro w0 r h e r' h' he E a w k s Q hQ
    simp only [codeC, blockCode] at he
    cases hr : (codeC C nt x).run ex r h with
    | fail => rw [hr] at he; cases he
    | ok e1 r1 h1 =>
      rw [hr] at he
      simp only at he
      refine wp_block (ih w0 r h e1 r1 h1 hr E a w k s _ fun E' a' w' q1 q2 q3 => ?_).wp
      cases e1 with
      | normal => simp only [CR.ok.injEq] at he; obtain ⟨rfl, rfl, rfl⟩ := he; exact hQ E' a' w' q1 q2 q3
      | ret => simp only [CR.ok.injEq] at he; obtain ⟨rfl, rfl, rfl⟩ := he; exact hQ E' a' w' q1 q2 q3
      | exit i =>
        simp only [cond_beq] at he
        simp only [toExit, Exit.inBlock]
        by_cases hi : i = id
        · rw [if_pos hi] at he ⊢
          simp only [CR.ok.injEq] at he; obtain ⟨rfl, rfl, rfl⟩ := he; exact hQ E' a' w' q1 q2 q3
        · rw [if_neg hi] at he ⊢
          simp only [CR.ok.injEq] at he; obtain ⟨rfl, rfl, rfl⟩ := he; exact hQ E' a' w' q1 q2 q3
  | loop x ih =>
    intro w0 r h e r' h' he E a w k s Q hQ
    simp only [codeC, loopCode] at he
    cases hr : (codeC C nt x).run ex r h with
    | fail => rw [hr] at he; cases he
    | ok e1 r1 h1 =>
      rw [hr] at he
      simp only at he
      intro b kk cs
      have body := (ih w0 r h e1 r1 h1 hr E a w k s
        (fun e' a' w' => e' = toExit e1 ∧ ∃ E', E.le E' ∧ RegRel E' nt r1 a' ∧ Sim w0 E' h1 w') (fun E' a' w' q1 q2 q3 => ⟨rfl, E', q1, q2, q3⟩)).wp b (.inLoop x :: kk) cs
      obtain ⟨e2, a2, w2, ⟨rfl, E2, q1, q2, q3⟩, harr⟩ := body
      cases e1 with
      | normal =>
        have next := hex nt (.loop x) w0 r1 h1 e r' h' he E2 a2 w2 q2 q3 Q (fun E4 a4 w4 t1 t2 t3 => hQ E4 a4 w4 (q1.trans t1) t2 t3)
        obtain ⟨e3, a3, w3, p1, p2⟩ := next b kk cs
        exact ⟨e3, a3, w3, p1, .of_steps (Steps.trans harr (.one step_inLoop)) p2⟩
      | exit id =>
        simp only [CR.ok.injEq] at he; obtain ⟨rfl, rfl, rfl⟩ := he
        exact ⟨.exit id, a2, w2, hQ E2 a2 w2 q1 q2 q3, .pass (x := .inLoop x) rfl (fun _ _ => .inl (by simp)) harr⟩
      | ret =>
        simp only [CR.ok.injEq] at he; obtain ⟨rfl, rfl, rfl⟩ := he
        exact ⟨.ret, a2, w2, hQ E2 a2 w2 q1 q2 q3, .pass (x := .inLoop x) rfl (fun _ _ => .inl (by simp)) harr⟩
  | scope x ih =>
    intro w0 r h e r' h' he E a w k s Q hQ
    simp only [codeC] at he
    refine wp_scope_straight (ih w0 r h e r' h' he E a w k s _ fun E' a' w' q1 q2 q3 => ?_).wp
    have := hQ E' a' w' q1 q2 q3
    cases e <;> exact this
  | rangeFunc f ps x y _ _ => intro w0 r h e r' h' he; simp [codeC] at he
  | goto l => intro w0 r h e r' h' he; simp [codeC] at he
  | refuse why => intro w0 r h e r' h' he; simp [codeC] at he

theorem exec_ok (hM : C.P.follows .mixedOrders = true) (hN : NamesOk C.P) (hP : PrimOk C) : ∀ n, ExecOk C.P (exec C n)
  | 0 => fun nt c w0 r h e r' h' he => by simp [exec] at he
  | n + 1 => fun nt c => codeC_sound hM hN hP (exec_ok hM hN hP n) nt c

/-- A CALL THAT THE MACHINE ENDS: the program ends it so. -/
theorem callN_sound (hM : C.P.follows .mixedOrders = true) (hN : NamesOk C.P) (hP : PrimOk C) (n : Nat) : CallOk C.P (callN C n) := callOk hP (exec_ok hM hN hP n)

theorem sim_empty (w : World) (hw : Lay.ok w) : Sim ⟨w, fun _ => none⟩ (fun _ => none) Heap.empty w := by
  refine ⟨fun b _ => ?_, fun _ _ h => (by cases h), (fun b b' p p' _ _ h => by cases h), fun _ _ => rfl, Below.refl _ _, hw, (fun _ _ _ _ _ _ h => by cases h)⟩
  have : Heap.empty.get b = .dead := by simp [Heap.get, Heap.empty]
  rw [this]
  trivial

/-- a call without memory that the machine answers by true -/
theorem truly_sound (hM : C.P.follows .mixedOrders = true) (hN : NamesOk C.P) {w : World} (hw : Lay.ok w) (hP : PrimOk C) {n : Nat} {f : FuncId} (h : truly C n f [] = true) : Calls C.P f #[] w fun e w' => e = .returned (.bool true) ∧ Below w.heap.size w w' := by
  unfold truly at h
  cases hc : callN C n f [] Heap.empty with
  | fail => rw [hc] at h; cases h
  | val v hh =>
    rw [hc] at h
    simp only at h
    cases v <;> simp only at h <;> try (cases h; done)
    subst h
    have hbody : ∃ fn, C.P.funcs[f]? = some fn ∧ fn.body.isSome = true := callHas hP _ hc
    rcases callN_sound hM hN hP n ⟨w, fun _ => none⟩ f [] Heap.empty _ hh hc (fun _ => none) w [] rfl (sim_empty w hw) with ⟨_, hcl⟩ | ⟨E', x, w', hr, _⟩
    case inr =>
      obtain ⟨fn, h1, h2⟩ := hbody
      rw [run_callFunc hN h1 h2] at hr
      cases hr
    refine hcl.mono fun e w' hq => ?_
    obtain ⟨E', x, rfl, _, q2, q3⟩ := hq
    simp only [Rel] at q2
    subst q2
    exact ⟨rfl, q3.frame⟩
end
end Go.Proofs.YtjbiefneffiogaaGreat.Am

namespace Go.Proofs.YtjbiefneffiogaaGreat.Am
variable [Lay]
set_option linter.unusedSectionVars false
open Go Go.RowKit

/-! Code, resolved: what hangs on the program's types is written out. -/
inductive RX where
  | t (n : Nat)
  | c (v : V)

abbrev RF := Nat → V

def RX.ev (r : RF) : RX → V
  | .t n => r n
  | .c v => v

def RX.evs (r : RF) : List RX → List V
  | [] => []
  | x :: xs => x.ev r :: RX.evs r xs

def RX.opt (r : RF) : Option RX → Option V
  | none => none
  | some x => some (x.ev r)

/-- what two values are asked, by kinds -/
inductive BK where
  | int (op : BinOp)
  | str (op : BinOp)
  | shl
  | shr
  | eqb (neg : Bool)
  | eqn (neg : Bool) (k : Nat)
  | other (op : BinOp) (t : TypeId)

noncomputable def BK.run (P : Program) : BK → V → V → Option V
  | .int op => (intC op).run
  | .str op => (strC op).run
  | .shl => (shiftC true).run
  | .shr => (shiftC false).run
  | .eqb neg => (eqBin neg eqBoolC).run
  | .eqn neg k => (eqBin neg (eqNilC k)).run
  | .other op t => (binC P op t).run

inductive CK where
  | int (k : IntKind)
  | bytes
  | str
  | other (s d : TypeId)

noncomputable def CK.run (P : Program) : CK → V → Heap → OR
  | .int k => fun x h => x.onInt .fail fun _ n => .val (.int k (k.wrap n)) h
  | .bytes => convBytes.run
  | .str => convStr.run
  | .other s d => (convC P s d).run

/-- kinds of keys -/
inductive KK where
  | int | str | bool

def KK.eq : KK → EqC
  | .int => eqIntC
  | .str => eqStrC
  | .bool => eqBoolC

inductive LK where
  | arr (n : Nat)
  | str
  | slice
  | map

inductive G where
  | bad
  | mv (x : RX)
  | pick (c a b : RX)
  | new (z : List V)
  | box (x : RX)
  | build (z : List V) (ps : List (Nat × Nat × RX))
  | bsl (len size : Nat) (z : List V) (ps : List (Nat × Nat × RX))
  | ld1 (x : RX)
  | ldn (size : Nat) (x : RX)
  | st (size : Nat) (x y : RX)
  | nilck (x : RX)
  | bin (k : BK) (x y : RX)
  | un (op : UnOp) (x : RX)
  | cv (k : CK) (x : RX)
  | fn (f : FuncId) (caps : List RX)
  | ifc (t : TypeId) (x : RX)
  | mksl (size : Nat) (z : List V) (l c : RX)
  | slstr (x : RX) (lo hi mx : Option RX)
  | sl (size : Nat) (x : RX) (lo hi mx : Option RX)
  | fa (off : Nat) (x : RX)
  | fld1 (off : Nat) (x : RX)
  | fldn (off size : Nat) (x : RX)
  | ia (size : Nat) (x i : RX)
  | iaa (n size : Nat) (x i : RX)
  | ixs (x i : RX)
  | ix (t : TypeId) (x i : RX)
  | look (k : KK) (z : V) (ok : Bool) (x i : RX)
  | upd (k : KK) (m i x : RX)
  | mkm (x : Option RX)
  | rngs (x : RX)
  | nxt (x : RX)
  | ext (x : RX) (i : Nat)
  | call (f : FuncId) (args : List RX)
  | callv (f : RX) (args : List RX)
  | len (k : LK) (x : RX)
  | app (size : Nat) (s x : RX)
  | copy (size : Nat) (d s : RX)
  | mn (args : List RX)
  | mx (args : List RX)

def evPs (r : RF) : List (Nat × Nat × RX) → List (Nat × Nat × V)
  | [] => []
  | (o, s, x) :: ps => (o, s, x.ev r) :: evPs r ps

def fillR : List V → List (Nat × Nat × V) → Option (List V)
  | cells, [] => some cells
  | cells, (off, size, v) :: rest => bif v.good && (Nat.beq v.cells.length size && Nat.ble (off + v.cells.length) cells.length) then fillR (fillAt cells off v.cells) rest else none

noncomputable def LK.run : LK → V → Heap → OR
  | .arr n => fun _ h => .val (.int .i64 n) h
  | .str => fun x h => OR.of h ((lenOne .string).run x)
  | .slice => fun x h => OR.of h ((lenOne (.slice 0)).run x)
  | .map => fun x h => lenMap [x] h

noncomputable def G.run (P : Program) (g : G) (call : CallF) (r : RF) (h : Heap) : OR :=
  match g with
  | .bad => .fail
  | .mv x => .val (x.ev r) h
  | .pick c a b => match c.ev r with
    | .bool t => .val (bif t then a.ev r else b.ev r) h
    | _ => .fail
  | .new z => orHeap (.ptr (pa h.next) 0) (newCells h z)
  | .box x => bif (x.ev r).good then orHeap (.ptr (pa h.next) 0) (newCells h (x.ev r).cells) else .fail
  | .build z ps => (match fillR z (evPs r ps) with
    | some cs => .val (.agg cs) h
    | none => .fail)
  | .bsl n _ z ps => match fillR (repeatV z n) (evPs r ps) with
    | some cs => (match newCells h cs with
      | some h' => .val (.slice (pa h.next) 0 n n) h'
      | none => .fail)
    | none => .fail
  | .ld1 x => OR.of h (loadOne h (x.ev r))
  | .ldn n x => OR.of h (loadMany n h (x.ev r))
  | .st n x y => orHeap .bad (storeV n h (x.ev r) (y.ev r))
  | .nilck x => OR.of h (nilCheckV (x.ev r))
  | .bin k x y => OR.of h (k.run P (x.ev r) (y.ev r))
  | .un op x => OR.of h (unV op (x.ev r))
  | .cv k x => k.run P (x.ev r) h
  | .fn f caps => .val (.func f (RX.evs r caps)) h
  | .ifc t x => .val (.iface t (x.ev r)) h
  | .mksl n z l c => makeSliceV n z (l.ev r) (c.ev r) h
  | .slstr x lo hi m3 => OR.of h (sliceStr (x.ev r) (RX.opt r lo) (RX.opt r hi) (RX.opt r m3))
  | .sl n x lo hi m3 => OR.of h (match x.ev r with
    | .nilslice => sliceNil (RX.opt r lo) (RX.opt r hi) (RX.opt r m3)
    | .slice b off ln cap => sliceKnown n b off ln cap (RX.opt r lo) (RX.opt r hi) (RX.opt r m3)
    | .gslice b off ln idx => sliceGrown n b off ln idx (RX.opt r lo) (RX.opt r hi) (RX.opt r m3)
    | .tslice b off off' idx => sliceTail b off off' idx (RX.opt r lo) (RX.opt r hi) (RX.opt r m3)
    | _ => none)
  | .fa off x => OR.of h ((x.ev r).onPtr none fun b o => some (.ptr b (o + off)))
  | .fld1 off x => OR.of h (match x.ev r with
    | .agg cs => cs[off]?
    | _ => none)
  | .fldn off n x => OR.of h (match x.ev r with
    | .agg cs => some (.agg ((cs.drop off).take n))
    | _ => none)
  | .ia n x i => OR.of h ((indexSlice n).run (x.ev r) (i.ev r))
  | .iaa n s x i => OR.of h ((indexArr n s).run (x.ev r) (i.ev r))
  | .ixs x i => OR.of h (indexStr.run (x.ev r) (i.ev r))
  | .ix t x i => OR.of h ((indexC P t).run (x.ev r) (i.ev r))
  | .look k z ok x i => OR.of h (lookupV k.eq z ok h (x.ev r) (i.ev r))
  | .upd k m i x => orHeap .bad (updV k.eq h (m.ev r) (i.ev r) (x.ev r))
  | .mkm x => makeMapV (RX.opt r x) h
  | .rngs x => (match x.ev r with
    | .str s => .val (.ptr (pa h.next) 0) (h.new (.iter s 0))
    | _ => .fail)
  | .nxt x => nextV (x.ev r) h
  | .ext x i => (match x.ev r with
    | .tuple vs => OR.of h vs[i]?
    | _ => .fail)
  | .call f args => call f (RX.evs r args) h
  | .callv f args => (f.ev r).onFunc fun g cs => call g (RX.evs r args ++ cs) h
  | .len k x => k.run (x.ev r) h
  | .app n s x => appV n (s.ev r) (x.ev r) h
  | .copy n d s => copyV n (d.ev r) (s.ev r) h
  | .mn args => OR.of h (pickV (fun b a => !Int.leB a b) (RX.evs r args))
  | .mx args => OR.of h (pickV (fun b a => !Int.leB b a) (RX.evs r args))

/-! Resolving. -/
section
variable {P : Program}

end
end Go.Proofs.YtjbiefneffiogaaGreat.Am

namespace Go.Proofs.YtjbiefneffiogaaGreat.Am
variable [Lay]
set_option linter.unusedSectionVars false
open Go Go.RowKit

/-! What a call gives, in whatever world. -/
def CallsV (P : Program) (f : FuncId) (args : List V) (h : Heap) (v : V) (h' : Heap) : Prop :=
  ((∃ fn, P.funcs[f]? = some fn ∧ fn.body.isSome = true) ∧ ∀ (w0 : Fr) E w xs, RelL E args xs → Sim w0 E h w →
    Calls P f xs.toArray w fun e w' => ∃ E' x, e = .returned x ∧ E.le E' ∧ Rel E' v x ∧ Sim w0 E' h' w') ∨
  ∀ (w0 : Fr) E w xs, RelL E args xs → Sim w0 E h w → ∃ E' x w', (callFunc f xs.toArray).run P w = .ok (.value x) w' ∧ E.le E' ∧ Rel E' v x ∧ Sim w0 E' h' w'
/-- a function of the program's own: its call is one in the model's sense -/
theorem CallsV.calls {P : Program} (hN : NamesOk P) {f : FuncId} {args : List V} {h h' : Heap} {v : V} (H : CallsV P f args h v h') (hb : ∃ fn, P.funcs[f]? = some fn ∧ fn.body.isSome = true) (w0 : Fr) (E : Env) (w : World) (xs : List Value) (hx : RelL E args xs) (s : Sim w0 E h w) :
    Calls P f xs.toArray w fun e w' => ∃ E' x, e = .returned x ∧ E.le E' ∧ Rel E' v x ∧ Sim w0 E' h' w' := by
  rcases H with ⟨_, H⟩ | H
  · exact H w0 E w xs hx s
  · obtain ⟨E', x, w', hr, _⟩ := H w0 E w xs hx s
    obtain ⟨fn, h1, h2⟩ := hb
    rw [run_callFunc hN h1 h2] at hr
    cases hr

/-- a call, and what is to be said of what it gives -/
def Ctr (P : Program) (f : FuncId) (args : List V) (h : Heap) (K : V → Heap → Prop) : Prop := ∃ v h', CallsV P f args h v h' ∧ K v h'

theorem Ctr.mono {P : Program} {f : FuncId} {args : List V} {h : Heap} {K K' : V → Heap → Prop} (c : Ctr P f args h K) (hk : ∀ v h', K v h' → K' v h') : Ctr P f args h K' := by
  obtain ⟨v, h', q1, q2⟩ := c
  exact ⟨v, h', q1, hk v h' q2⟩

def nocall : CallF := fun _ _ _ => .fail

/-! Registers. -/
def RF.set (r : RF) (d : Option Nat) (v : V) : RF :=
  match d with
  | none => r
  | some d => fun t => if t = d then v else r t

def RF.trim (r : RF) : List Nat → RF
  | [], _ => .bad
  | u :: us, t => if t = u then r t else RF.trim r us t

def RF.ofL : List V → RF
  | [], _ => .bad
  | v :: vs, t => if t = 0 then v else RF.ofL vs (t - 1)

def Out (nt : Nat) (r : RF) : Prop := ∀ t, nt ≤ t → r t = .bad

theorem Out.set {nt : Nat} {r : RF} (ho : Out nt r) {d : Option Nat} (hd : dstFine nt d = true) (v : V) : Out nt (r.set d v) := by
  intro t ht
  cases d with
  | none => exact ho t ht
  | some d =>
    simp only [dstFine, Bool.and_eq_true, Nat.blt_eq] at hd
    simp only [RF.set]
    rw [if_neg (by omega)]
    exact ho t ht

structure RegF (E : Env) (nt : Nat) (r : RF) (a : Act) : Prop where
  size : a.tmps.size = nt
  defers : a.defers = []
  reg : ∀ t, Rel E (r t) (a.tmps.getD t undef)

theorem RegF.mono {E E' : Env} (h : E.le E') {nt : Nat} {r : RF} {a : Act} (k : RegF E nt r a) : RegF E' nt r a :=
  ⟨k.size, k.defers, fun t => Rel.mono h _ _ (k.reg t)⟩

theorem RegF.put {E E' : Env} (h : E.le E') {nt : Nat} {r : RF} {a : Act} (k : RegF E nt r a) {d : Option Nat} (hd : dstFine nt d = true) {v : V} {x : Value} (hx : Rel E' v x) : RegF E' nt (r.set d v) (a.put d x) := by
  cases d with
  | none => exact k.mono h
  | some d =>
    simp only [dstFine, Bool.and_eq_true, Nat.blt_eq] at hd
    refine ⟨by simp [Act.put, k.size], by simp [Act.put, k.defers], fun t => ?_⟩
    simp only [RF.set, Act.put]
    rw [Array.getD_eq_getD_getElem?, Array.getElem?_setIfInBounds]
    by_cases ht : t = d
    · subst ht
      rw [if_pos rfl, if_pos rfl, if_pos (by rw [k.size]; exact hd.1)]
      exact hx
    · rw [if_neg ht, if_neg (fun e => ht e.symm), ← Array.getD_eq_getD_getElem?]
      exact Rel.mono h _ _ (k.reg t)

/-! Weakest preconditions over resolved code. -/
noncomputable def G.wp (P : Program) (g : G) (r : RF) (h : Heap) (K : V → Heap → Prop) : Prop :=
  match g with
  | .call f args => Ctr P f (RX.evs r args) h K
  | .callv f args => ∃ g cs, f.ev r = .func g cs ∧ Ctr P g (RX.evs r args ++ cs) h K
  | g => ∃ v h', g.run P nocall r h = .val v h' ∧ K v h'

structure GO where
  dst : Option Nat
  g : G
  gd : Option (Nat × Bool)
  rs : List Nat

def GO.bad : GO := ⟨none, .bad, none, []⟩

def gate (v : V) (want : Bool) (A B : Prop) : Prop :=
  match v with
  | .bool b => (b = want → A) ∧ (b = !want → B)
  | .tuple _ => B
  | _ => False

noncomputable def GO.wp (P : Program) (o : GO) (r : RF) (h : Heap) (K : RF → V → Heap → Prop) : Prop :=
  match o.gd with
  | none => o.g.wp P (r.trim o.rs) h fun v h' => K (r.set o.dst v) v h'
  | some (d, want) => gate (r.trim o.rs d) want (o.g.wp P (r.trim o.rs) h fun v h' => K (r.set o.dst v) v h') (K (r.set o.dst (.tuple [])) (.tuple []) h)

noncomputable def wpOs (P : Program) : List GO → RF → Heap → (RF → Heap → Prop) → Prop
  | [], r, h, K => K r h
  | o :: os, r, h, K => o.wp P r h fun r' _ h' => wpOs P os r' h' K

structure EntF where
  r : RF
  h : Heap
  v : V

noncomputable def wpD (P : Program) : List GO → RF → Heap → (List EntF → RF → Heap → Prop) → Prop
  | [], r, h, K => K [] r h
  | o :: os, r, h, K => o.wp P r h fun r' v h' => wpD P os r' h' fun es rf hf => K (⟨r, h, v⟩ :: es) rf hf

def heapF (es : List EntF) (hf : Heap) (i : Nat) : Heap :=
  match es[i]? with
  | some e => e.h
  | none => hf

noncomputable def askP (P : Program) (o : Option GO) (e : Option EntF) (es : List EntF) (hf : Heap) : List Nat → Prop
  | [] => True
  | s :: ss => (match o, e with
    | some o, some e => o.wp P e.r (heapF es hf s) fun _ v' _ => v' = e.v
    | _, _ => False) ∧ askP P o e es hf ss

noncomputable def asksP (P : Program) (ops : List GO) (es : List EntF) (hf : Heap) : List (Nat × List Nat) → Prop
  | [] => True
  | (p, ss) :: rest => askP P ops[p]? es[p]? es hf ss ∧ asksP P ops es hf rest

inductive RC where
  | bad
  | skip
  | reg (ops : List GO)
  | draw (ops : List GO) (asks : List (Nat × List Nat))
  | seq (a b : RC)
  | cond (c : RX) (a b : RC)
  | block (id : Nat) (b : RC)
  | loop (b : RC)
  | exit (id : Nat)
  | ret

def Ex.andThen : Ex → Prop → Prop → Prop
  | .normal, A, _ => A
  | _, _, B => B

def Ex.leave (id : Nat) : Ex → Ex
  | .exit i => if i = id then .normal else .exit i
  | e => e

noncomputable def wpC (P : Program) : RC → RF → Heap → (Ex → RF → Heap → Prop) → Prop
  | .bad, _, _, _ => False
  | .skip, r, h, Q => Q .normal r h
  | .reg ops, r, h, Q => wpOs P ops r h (Q .normal)
  | .draw ops asks, r, h, Q => wpD P ops r h fun es rf hf => asksP P ops es hf asks ∧ Q .normal rf hf
  | .seq a b, r, h, Q => wpC P a r h fun e r' h' => e.andThen (wpC P b r' h' Q) (Q e r' h')
  | .cond c a b, r, h, Q => match c.ev r with
    | .bool t => (t = true → wpC P a r h Q) ∧ (t = false → wpC P b r h Q)
    | _ => False
  | .block id b, r, h, Q => wpC P b r h fun e r' h' => Q (e.leave id) r' h'
  | .loop b, r, h, Q => ∃ (I : RF → Heap → Prop) (μ : RF → Heap → Nat), I r h ∧ ∀ r h, I r h → wpC P b r h fun e r' h' => e.andThen (I r' h' ∧ μ r' h' < μ r h) (Q e r' h')
  | .exit id, r, h, Q => Q (.exit id) r h
  | .ret, r, h, Q => Q .ret r h

section
variable {P : Program} {nt : Nat}

theorem Out.mono {r : RF} (ho : Out nt r) : Out nt r := ho

/-! Results; functions. -/
inductive RR' where
  | t (n : Nat)
  | c1 (n : Nat)
  | cn (n size : Nat)
  | bad

def Ex.ends : Ex → Prop
  | .exit _ => False
  | _ => True

end
end Go.Proofs.YtjbiefneffiogaaGreat.Am

namespace Go.Proofs.YtjbiefneffiogaaGreat.Am
variable [Lay]
set_option linter.unusedSectionVars false
open Go Go.RowKit

/-! Tries hang on what is put, not on the order. -/
section
variable {α : Type} (d : α)

theorem T.put_put (x y : α) : ∀ (p : Pa) (t : T α), T.put d x p (T.put d y p t) = T.put d x p t
  | .z, t => by cases t <;> rfl
  | .l p, t => by
    cases t with
    | e => exact congrArg (fun q => T.n d q .e) (T.put_put x y p .e)
    | n v l r => exact congrArg (fun q => T.n v q r) (T.put_put x y p l)
  | .r p, t => by
    cases t with
    | e => exact congrArg (fun q => T.n d .e q) (T.put_put x y p .e)
    | n v l r => exact congrArg (fun q => T.n v l q) (T.put_put x y p r)

theorem T.put_comm (x y : α) : ∀ (p q : Pa) (t : T α), p ≠ q → T.put d x p (T.put d y q t) = T.put d y q (T.put d x p t)
  | .z, .z, t, h => absurd rfl h
  | .z, .l q, t, _ => by cases t <;> rfl
  | .z, .r q, t, _ => by cases t <;> rfl
  | .l p, .z, t, _ => by cases t <;> rfl
  | .r p, .z, t, _ => by cases t <;> rfl
  | .l p, .r q, t, _ => by cases t <;> rfl
  | .r p, .l q, t, _ => by cases t <;> rfl
  | .l p, .l q, t, h => by
    have h' : p ≠ q := fun e => h (by rw [e])
    cases t with
    | e => exact congrArg (fun s => T.n d s .e) (T.put_comm x y p q .e h')
    | n v l r => exact congrArg (fun s => T.n v s r) (T.put_comm x y p q l h')
  | .r p, .r q, t, h => by
    have h' : p ≠ q := fun e => h (by rw [e])
    cases t with
    | e => exact congrArg (fun s => T.n d .e s) (T.put_comm x y p q .e h')
    | n v l r => exact congrArg (fun s => T.n v l s) (T.put_comm x y p q r h')
end

theorem pa_eq (i j : Nat) : (pa i = pa j) = (i = j) := by
  apply propext
  exact ⟨pa_inj, fun h => by rw [h]⟩

theorem puts_put (vs : List V) : ∀ (i off : Nat) (x : V) (t : T V), i < off → T.put .bad x (pa i) (puts t off vs) = puts (T.put .bad x (pa i) t) off vs := by
  induction vs with
  | nil => intro i off x t _; rfl
  | cons v vs ih =>
    intro i off x t h
    simp only [puts]
    rw [ih i (off + 1) x _ (by omega), T.put_comm _ _ _ _ _ _ (fun e => by rw [pa_eq] at e; omega)]

/-- a piece of a list, laid anew -/
def splice (vs : List V) (off : Nat) (ws : List V) : List V := vs.take off ++ ws ++ vs.drop (off + ws.length)

theorem puts_set : ∀ (vs : List V) (base i : Nat) (x : V) (t : T V), i < vs.length → T.put .bad x (pa (base + i)) (puts t base vs) = puts t base (vs.set i x)
  | [], _, i, _, _, h => by simp at h
  | v :: vs, base, i, x, t, h => by
    cases i with
    | zero =>
      simp only [puts, Nat.add_zero, List.set]
      rw [puts_put vs base (base + 1) x _ (by omega), T.put_put]
    | succ i =>
      simp only [puts, List.set]
      have := puts_set vs (base + 1) i x (T.put .bad v (pa base) t) (by simpa using h)
      rw [show base + (i + 1) = base + 1 + i from by omega]
      exact this

theorem set_splice (vs : List V) (off : Nat) (w : V) (ws : List V) (h : off < vs.length) : splice (vs.set off w) (off + 1) ws = splice vs off (w :: ws) := by
  unfold splice
  have h1 : (vs.set off w).take (off + 1) = vs.take off ++ [w] := by
    rw [List.take_succ_eq_append_getElem (by simpa using h)]
    simp [List.take_set_of_le]
  have h2 : (vs.set off w).drop (off + 1 + ws.length) = vs.drop (off + (w :: ws).length) := by
    rw [List.drop_set_of_lt (by omega)]
    congr 1
    simp
    omega
  rw [h1, h2]
  simp

theorem splice_length (vs : List V) (off : Nat) (ws : List V) (h : off + ws.length ≤ vs.length) : (splice vs off ws).length = vs.length := by
  unfold splice
  simp
  omega

theorem puts_splice : ∀ (ws vs : List V) (off : Nat), off + ws.length ≤ vs.length → puts (puts .e 0 vs) off ws = puts .e 0 (splice vs off ws)
  | [], vs, off, h => by simp [puts, splice]
  | w :: ws, vs, off, h => by
    simp only [List.length_cons] at h
    simp only [puts]
    have h1 := puts_set vs 0 off w .e (by omega)
    rw [Nat.zero_add] at h1
    rw [h1, puts_splice ws (vs.set off w) (off + 1) (by simp; omega), set_splice vs off w ws (by omega)]

theorem get_puts (vs : List V) : ∀ (off i : Nat) (t : T V), T.get .bad (pa (off + i)) (puts t off vs) = if i < vs.length then (vs[i]?).getD .bad else T.get .bad (pa (off + i)) t := by
  induction vs with
  | nil => intro off i t; simp [puts]
  | cons v vs ih =>
    intro off i t
    simp only [puts]
    cases i with
    | zero =>
      have : ∀ (ws : List V) (o : Nat) (s : T V), off < o → T.get .bad (pa off) (puts s o ws) = T.get .bad (pa off) s := by
        intro ws
        induction ws with
        | nil => intro o s _; rfl
        | cons w ws ihw =>
          intro o s ho
          simp only [puts]
          rw [ihw (o + 1) _ (by omega), T.get_put, if_neg (fun e => by rw [pa_eq] at e; omega)]
      rw [Nat.add_zero, this vs (off + 1) _ (by omega), T.get_put]
      simp
    | succ i =>
      have := ih (off + 1) i (T.put .bad v (pa off) t)
      rw [show off + 1 + i = off + (i + 1) from by omega] at this
      rw [this, T.get_put]
      have hne : ¬ pa off = pa (off + (i + 1)) := fun e => by rw [pa_eq] at e; omega
      rw [if_neg hne]
      simp

theorem gets_eq (vs : List V) : ∀ (n i : Nat), i + n ≤ vs.length → gets (puts .e 0 vs) i n = (vs.drop i).take n
  | 0, i, h => by simp [gets]
  | n + 1, i, h => by
    simp only [gets]
    have h1 := get_puts vs 0 i .e
    rw [Nat.zero_add] at h1
    rw [h1, if_pos (by omega), gets_eq vs n (i + 1) (by omega)]
    have hd : vs.drop i = vs[i] :: vs.drop (i + 1) := List.drop_eq_getElem_cons (by omega)
    rw [hd, List.take_succ_cons]
    simp [List.getElem?_eq_getElem (by omega : i < vs.length)]

/-! Blocks as lists. -/
noncomputable def Blk.ofL (vs : List V) (esz : Nat) (st : Bool) : Blk := .cells vs.length (puts .e 0 vs) esz st
noncomputable def Blk.ro (vs : List V) : Blk := .view vs.length (puts .e 0 vs)

/-- the block reads so -/
def Rd (h : Heap) (b : Pa) (vs : List V) : Prop := h.get b = .ro vs ∨ ∃ esz st, h.get b = .ofL vs esz st

/-- the block is one's own, and reads so -/
def Own (h : Heap) (b : Pa) (vs : List V) (esz : Nat) (st : Bool) : Prop := h.get b = .ofL vs esz st

theorem Rd.see {α : Type} {h : Heap} {b : Pa} {vs : List V} (H : Rd h b vs) (d : α) (f : Nat → T V → α) : (h.get b).see d f = f vs.length (puts .e 0 vs) := by
  rcases H with H | ⟨_, _, H⟩ <;> rw [H] <;> rfl

theorem Own.rd {h : Heap} {b : Pa} {vs : List V} {esz : Nat} {st : Bool} (H : Own h b vs esz st) : Rd h b vs := .inr ⟨esz, st, H⟩

theorem Own.lay {h : Heap} {b : Pa} {vs : List V} {esz : Nat} {st : Bool} (H : Own h b vs esz st) {off : Nat} {ws : List V} (ho : off + ws.length ≤ vs.length) (h1 : ones ws = true) :
    lay h b off ws = some (h.set b (.ofL (splice vs off ws) esz st)) := by
  unfold Am.lay
  rw [show h.get b = .cells vs.length (puts .e 0 vs) esz st from H]
  simp only [Blk.on]
  rw [show Nat.ble (off + ws.length) vs.length = true from by rw [Nat.ble_eq]; exact ho, h1]
  simp only [Bool.and_true, cond_true, Option.some.injEq, Blk.ofL]
  rw [splice_length vs off ws ho, puts_splice ws vs off ho]

theorem Own.store {h : Heap} {b : Pa} {vs : List V} {esz : Nat} {st : Bool} (H : Own h b vs esz st) {off n : Nat} {y : V} (hn : y.cells.length = n) (ho : off + n ≤ vs.length) (h1 : ones y.cells = true) :
    storeV n h (.ptr b off) y = some (h.set b (.ofL (splice vs off y.cells) esz st)) := by
  simp only [storeV, V.onPtr]
  rw [show Nat.beq y.cells.length n = true from by rw [Nat.beq_eq]; exact hn]
  simp only [cond_true]
  exact H.lay (by rw [hn]; exact ho) h1

theorem next_new (h : Heap) (k : Blk) : (h.new k).next = h.next + 1 := rfl
end Go.Proofs.YtjbiefneffiogaaGreat.Am

namespace Go.Proofs.YtjbiefneffiogaaGreat.Am
variable [Lay]
set_option linter.unusedSectionVars false
open Go Go.RowKit

/-! The steps of a walk, as equations. -/
section
variable {P : Program} {r : RF} {h : Heap}

variable {K : V → Heap → Prop}
/-! What numbers are asked. -/
theorem leB_dec (a b : Int) : Int.leB a b = decide (a ≤ b) := leB_eq a b
theorem eqB_dec (a b : Int) : Int.eqB a b = decide (a = b) := by rw [eqB_eq]; rfl

variable (k : IntKind) (a b : Int)
end

/-! Code. -/
section
variable {P : Program} {r : RF} {h : Heap} {Q : Ex → RF → Heap → Prop}
end
end Go.Proofs.YtjbiefneffiogaaGreat.Am

namespace Go.Proofs.YtjbiefneffiogaaGreat.Am
variable [Lay]
set_option linter.unusedSectionVars false
open Go Go.RowKit

/-! Steps that simp takes: what is pure parts no way. -/
def withO {α : Type} (o : Option α) (k : α → Prop) : Prop :=
  match o with
  | some v => k v
  | none => False
@[congr] theorem with_congr {α : Type} {o o' : Option α} {k : α → Prop} (h : o = o') : withO o k = withO o' k := by rw [h]

def V.opt (c : Bool) (v : V) : V := bif c then v else .tuple []
@[congr] theorem opt_congr {c c' : Bool} {v v' : V} (h : c = c') (hv : c' = true → v = v') : V.opt c v = V.opt c' v' := by
  subst h
  cases c with
  | true => rw [hv rfl]
  | false => rfl

def V.bif (t : Bool) (a b : V) : V := bif t then a else b
@[congr] theorem bif_congr {t t' : Bool} {a a' b b' : V} (h : t = t') (ha : t' = true → a = a') (hb : t' = false → b = b') : V.bif t a b = V.bif t' a' b' := by
  subst h
  cases t with
  | true => rw [V.bif, V.bif, ha rfl]; rfl
  | false => rw [V.bif, V.bif, hb rfl]; rfl

def Imp (c : Bool) (A : Prop) : Prop := c = true → A
@[congr] theorem Imp_congr {c c' : Bool} {A A' : Prop} (h : c = c') (ha : c' = true → A = A') : Imp c A = Imp c' A' := by
  subst h
  exact propext ⟨fun q e => (ha e) ▸ q e, fun q e => (ha e) ▸ q e⟩
def sliceV (n : Nat) (x : V) (lo hi m3 : Option V) : Option V :=
  match x with
  | .nilslice => sliceNil lo hi m3
  | .slice b off ln cap => sliceKnown n b off ln cap lo hi m3
  | .gslice b off ln idx => sliceGrown n b off ln idx lo hi m3
  | .tslice b off off' idx => sliceTail b off off' idx lo hi m3
  | _ => none

section
variable {P : Program} {r : RF} {h : Heap}

@[congr] theorem wpOs_congr {os : List GO} {r r' : RF} {h h' : Heap} {K : RF → Heap → Prop} (e1 : r = r') (e2 : h = h') : wpOs P os r h K = wpOs P os r' h' K := by rw [e1, e2]
@[congr] theorem wpD_congr {os : List GO} {r r' : RF} {h h' : Heap} {K : List EntF → RF → Heap → Prop} (e1 : r = r') (e2 : h = h') : wpD P os r h K = wpD P os r' h' K := by rw [e1, e2]
@[congr] theorem GOwp_congr {o : GO} {r r' : RF} {h h' : Heap} {K : RF → V → Heap → Prop} (e1 : r = r') (e2 : h = h') : o.wp P r h K = o.wp P r' h' K := by rw [e1, e2]
@[congr] theorem Gwp_congr {g : G} {r r' : RF} {h h' : Heap} {K : V → Heap → Prop} (e1 : r = r') (e2 : h = h') : g.wp P r h K = g.wp P r' h' K := by rw [e1, e2]
@[congr] theorem wpC_congr {c : RC} {r r' : RF} {h h' : Heap} {Q : Ex → RF → Heap → Prop} (e1 : r = r') (e2 : h = h') : wpC P c r h Q = wpC P c r' h' Q := by rw [e1, e2]
@[congr] theorem Ctr_congr {f : FuncId} {a a' : List V} {h h' : Heap} {K : V → Heap → Prop} (e1 : a = a') (e2 : h = h') : Ctr P f a h K = Ctr P f a' h' K := by rw [e1, e2]

/-! Memory. -/
noncomputable def ld1B (k : Blk) (off : Nat) : Option V := k.see none fun n cs => bif Nat.blt off n then some (T.get .bad (pa off) cs) else none
noncomputable def ldnB (n : Nat) (k : Blk) (off : Nat) : Option V := k.see none fun m cs => bif Nat.ble (off + n) m then some (.agg (gets cs off n)) else none

theorem ld1_see {vs : List V} {off : Nat} : (bif Nat.blt off vs.length then some (T.get .bad (pa off) (puts .e 0 vs)) else none) = vs[off]? := by
  have := get_puts vs 0 off .e
  rw [Nat.zero_add] at this
  rw [this]
  by_cases ho : off < vs.length
  · rw [show Nat.blt off vs.length = true from by rw [Nat.blt_eq]; exact ho, if_pos ho]
    simp [List.getElem?_eq_getElem ho]
  · rw [show Nat.blt off vs.length = false from by rw [← Bool.not_eq_true, Nat.blt_eq]; exact ho]
    rw [List.getElem?_eq_none (by omega)]
    rfl
theorem ld1_ofL (vs : List V) (esz : Nat) (st : Bool) (off : Nat) : ld1B (.ofL vs esz st) off = vs[off]? := ld1_see
theorem ld1_ro (vs : List V) (off : Nat) : ld1B (.ro vs) off = vs[off]? := ld1_see

theorem ldn_see {vs : List V} {off n : Nat} : (bif Nat.ble (off + n) vs.length then some (V.agg (gets (puts .e 0 vs) off n)) else none) = if off + n ≤ vs.length then some (.agg ((vs.drop off).take n)) else none := by
  by_cases ho : off + n ≤ vs.length
  · rw [show Nat.ble (off + n) vs.length = true from by rw [Nat.ble_eq]; exact ho, if_pos ho, gets_eq vs n off ho]
    rfl
  · rw [show Nat.ble (off + n) vs.length = false from by rw [← Bool.not_eq_true, Nat.ble_eq]; exact ho, if_neg ho]
    rfl
theorem ldn_ofL (n : Nat) (vs : List V) (esz : Nat) (st : Bool) (off : Nat) : ldnB n (.ofL vs esz st) off = if off + n ≤ vs.length then some (.agg ((vs.drop off).take n)) else none := ldn_see
theorem ldn_ro (n : Nat) (vs : List V) (off : Nat) : ldnB n (.ro vs) off = if off + n ≤ vs.length then some (.agg ((vs.drop off).take n)) else none := ldn_see

theorem Rd.ld1 {b : Pa} {vs : List V} (H : Rd h b vs) (off : Nat) : ld1B (h.get b) off = vs[off]? := by
  rcases H with H | ⟨_, _, H⟩ <;> rw [H]
  · exact ld1_ro vs off
  · exact ld1_ofL vs _ _ off
theorem Rd.ldn {b : Pa} {vs : List V} (H : Rd h b vs) (n off : Nat) : ldnB n (h.get b) off = if off + n ≤ vs.length then some (.agg ((vs.drop off).take n)) else none := by
  rcases H with H | ⟨_, _, H⟩ <;> rw [H]
  · exact ldn_ro n vs off
  · exact ldn_ofL n vs _ _ off

/-- a piece of a list, laid anew, cell by cell -/
def over : List V → List V → List V
  | vs, [] => vs
  | [], _ :: _ => []
  | _ :: vs, w :: ws => w :: over vs ws
theorem get_new_self (k : Blk) : (h.new k).get (pa h.next) = k := by rw [Heap.get_new, if_pos rfl]
theorem get_new (b : Pa) (k : Blk) : (h.new k).get b = if pa h.next = b then k else h.get b := Heap.get_new h b k
theorem get_set (b b' : Pa) (k : Blk) : (h.set b k).get b' = if b = b' then k else h.get b' := Heap.get_set h b b' k

/-- an old block -/
def Old (h : Heap) (b : Pa) : Prop := unPa b < h.next
theorem old_ne {b : Pa} {i : Nat} (hb : Old h b) (hi : h.next ≤ i) : (pa i = b) = False := by
  apply propext
  constructor
  · intro e
    unfold Old at hb
    rw [← e, unPa_pa] at hb
    omega
  · exact False.elim
theorem old_self {k : Blk} : Old (h.new k) (pa h.next) := by unfold Old; rw [unPa_pa]; exact Nat.lt_succ_self _

/-! What the pure operations give. -/
def lenSl (x : V) : Option V := (lenOne (.slice 0)).run x
def iaV (n : Nat) (x i : V) : Option V := (indexSlice n).run x i
theorem ia_sl (n : Nat) (b : Pa) (off len cap : Nat) (k : IntKind) (i : Int) : iaV n (.slice b off len cap) (.int k i) = if 0 ≤ i ∧ i < len then some (.ptr b (off + i.toNat * n)) else none := by
  simp only [iaV, indexSlice, V.onInt, inRange, leB_dec]
  by_cases h1 : 0 ≤ i <;> by_cases h2 : (len : Int) ≤ i <;> simp [h1, h2] <;> omega
theorem ia_g (n : Nat) (b : Pa) (off len cap : Nat) (k : IntKind) (i : Int) : iaV n (.gslice b off len cap) (.int k i) = if 0 ≤ i ∧ i < len then some (.ptr b (off + i.toNat * n)) else none := by
  simp only [iaV, indexSlice, V.onInt, inRange, leB_dec]
  by_cases h1 : 0 ≤ i <;> by_cases h2 : (len : Int) ≤ i <;> simp [h1, h2] <;> omega
end
end Go.Proofs.YtjbiefneffiogaaGreat.Am

namespace Go.Proofs.YtjbiefneffiogaaGreat.Am
variable [Lay]
set_option linter.unusedSectionVars false
open Go Go.RowKit
set_option linter.unusedVariables false

/-! Walks over a stack of what is left to do: no function stands in the goal but the last. -/
structure DS where
  all : List GO
  asks : List (Nat × List Nat)
  es : List EntF

def pushD (D : Option DS) (r : RF) (h : Heap) (v : V) : Option DS :=
  match D with
  | none => none
  | some d => some ⟨d.all, d.asks, d.es ++ [⟨r, h, v⟩]⟩

inductive KS where
  | os (D : Option DS) (os : List GO)
  | c (b : RC)
  | blk (id : Nat)

section
variable (P : Program)
noncomputable def asksD (D : Option DS) (es : List EntF) (hf : Heap) : Prop :=
  match D with
  | none => True
  | some d => asksP P d.all (d.es ++ es) hf d.asks
noncomputable def wpK : List KS → Ex → RF → Heap → (Ex → RF → Heap → Prop) → Prop
  | [], e, r, h, Q => Q e r h
  | .os D os :: ks, e, r, h, Q => match e with
    | .normal => wpD P os r h fun es r' h' => asksD P D es h' ∧ wpK ks .normal r' h' Q
    | e => wpK ks e r h Q
  | .c b :: ks, e, r, h, Q => match e with
    | .normal => wpC P b r h fun e r' h' => wpK ks e r' h' Q
    | e => wpK ks e r h Q
  | .blk id :: ks, e, r, h, Q => wpK ks (e.leave id) r h Q

/-- a value is laid into its slot, and on -/
noncomputable def stepV (o : Option V) (d : Option Nat) (D : Option DS) (os : List GO) (ks : List KS) (r : RF) (h : Heap) (Q : Ex → RF → Heap → Prop) : Prop :=
  withO o fun v => wpK P (.os (pushD D r h v) os :: ks) .normal (r.set d v) h Q
noncomputable def stepO (o : OR) (d : Option Nat) (D : Option DS) (os : List GO) (ks : List KS) (r : RF) (h0 : Heap) (Q : Ex → RF → Heap → Prop) : Prop :=
  match o with
  | .val v h => wpK P (.os (pushD D r h0 v) os :: ks) .normal (r.set d v) h Q
  | .fail => False
noncomputable def gateK (v : V) (want : Bool) (d : Option Nat) (g : G) (rs : List Nat) (D : Option DS) (os : List GO) (ks : List KS) (r : RF) (h : Heap) (Q : Ex → RF → Heap → Prop) : Prop :=
  gate v want (wpK P (.os D (⟨d, g, none, rs⟩ :: os) :: ks) .normal r h Q) (wpK P (.os (pushD D r h (.tuple [])) os :: ks) .normal (r.set d (.tuple [])) h Q)
noncomputable def condK (v : V) (a b : RC) (ks : List KS) (r : RF) (h : Heap) (Q : Ex → RF → Heap → Prop) : Prop :=
  match v with
  | .bool t => (t = true → wpK P (.c a :: ks) .normal r h Q) ∧ (t = false → wpK P (.c b :: ks) .normal r h Q)
  | _ => False
noncomputable def callK (f : FuncId) (args : List V) (d : Option Nat) (D : Option DS) (os : List GO) (ks : List KS) (r : RF) (h : Heap) (Q : Ex → RF → Heap → Prop) : Prop :=
  Ctr P f args h fun v h' => wpK P (.os (pushD D r h v) os :: ks) .normal (r.set d v) h' Q
noncomputable def callvK (f : V) (args : List V) (d : Option Nat) (D : Option DS) (os : List GO) (ks : List KS) (r : RF) (h : Heap) (Q : Ex → RF → Heap → Prop) : Prop :=
  ∃ g cs, f = .func g cs ∧ callK P g (args ++ cs) d D os ks r h Q
noncomputable def loopK (b : RC) (ks : List KS) (r : RF) (h : Heap) (Q : Ex → RF → Heap → Prop) : Prop := wpC P (.loop b) r h fun e r' h' => wpK P ks e r' h' Q
end

section
variable {P : Program} {r : RF} {h : Heap} {Q : Ex → RF → Heap → Prop} {ks : List KS} {os : List GO} {D : Option DS}

@[congr] theorem stepV_congr {o o' : Option V} {d : Option Nat} (e : o = o') : stepV P o d D os ks r h Q = stepV P o' d D os ks r h Q := by rw [e]
@[congr] theorem stepO_congr {o o' : OR} {d : Option Nat} (e : o = o') : stepO P o d D os ks r h Q = stepO P o' d D os ks r h Q := by rw [e]
@[congr] theorem condK_congr {v v' : V} {a b : RC} (e : v = v') : condK P v a b ks r h Q = condK P v' a b ks r h Q := by rw [e]
@[congr] theorem gateK_congr {v v' : V} {want : Bool} {d : Option Nat} {g : G} {rs : List Nat} (e : v = v') : gateK P v want d g rs D os ks r h Q = gateK P v' want d g rs D os ks r h Q := by rw [e]
@[congr] theorem callvK_congr {f f' : V} {args args' : List V} {d : Option Nat} (e1 : f = f') (e2 : args = args') : callvK P f args d D os ks r h Q = callvK P f' args' d D os ks r h Q := by rw [e1, e2]
@[congr] theorem callK_congr {f : FuncId} {args args' : List V} {d : Option Nat} (e2 : args = args') : callK P f args d D os ks r h Q = callK P f args' d D os ks r h Q := by rw [e2]
@[congr] theorem wpK_congr {e e' : Ex} {r' : RF} {h' : Heap} (e0 : e = e') (e1 : r = r') (e2 : h = h') : wpK P ks e r h Q = wpK P ks e' r' h' Q := by rw [e0, e1, e2]
@[congr] theorem loopK_congr {b : RC} {r' : RF} {h' : Heap} (e1 : r = r') (e2 : h = h') : loopK P b ks r h Q = loopK P b ks r' h' Q := by rw [e1, e2]

/-! What turns the memory. -/
/-! What is asked again. -/
end
end Go.Proofs.YtjbiefneffiogaaGreat.Am

namespace Go.Proofs.YtjbiefneffiogaaGreat.Am
variable [Lay]
set_option linter.unusedSectionVars false
open Go Go.RowKit

/-! The steps, a kind of operation each (by a program: gen30.py). -/
section
variable {P : Program} {r : RF} {h : Heap} {Q : Ex → RF → Heap → Prop} {ks : List KS} {os : List GO} {D : Option DS} {d : Option Nat} {rs : List Nat}

end
end Go.Proofs.YtjbiefneffiogaaGreat.Am

namespace Go.Proofs.YtjbiefneffiogaaGreat.Am
variable [Lay]
set_option linter.unusedSectionVars false
open Go Go.RowKit

section
variable {P : Program}

/-- the heap has grown: all that was stays -/
structure Ext (h h' : Heap) : Prop where
  next : h.next ≤ h'.next
  get : ∀ b, Old h b → h'.get b = h.get b

theorem Ext.refl (h : Heap) : Ext h h := ⟨Nat.le_refl _, fun _ _ => rfl⟩
theorem Ext.old {h h' : Heap} (e : Ext h h') {b : Pa} (hb : Old h b) : Old h' b := Nat.lt_of_lt_of_le hb e.next
theorem Ext.trans {h h' h'' : Heap} (e : Ext h h') (e' : Ext h' h'') : Ext h h'' :=
  ⟨Nat.le_trans e.next e'.next, fun b hb => (e'.get b (e.old hb)).trans (e.get b hb)⟩
theorem Ext.new {h h' : Heap} (e : Ext h h') (k : Blk) : Ext h (h'.new k) :=
  ⟨Nat.le_succ_of_le e.next, fun b hb => by
    rw [get_new, if_neg (fun q => (old_ne (h := h) hb e.next) ▸ q)]
    exact e.get b hb⟩
theorem Ext.set {h h' : Heap} (e : Ext h h') {i : Nat} (hi : h.next ≤ i) (k : Blk) : Ext h (h'.set (pa i) k) :=
  ⟨e.next, fun b hb => by
    rw [get_set, if_neg (fun q => (old_ne (h := h) hb hi) ▸ q)]
    exact e.get b hb⟩
theorem Ext.rd {h h' : Heap} (e : Ext h h') {b : Pa} (hb : Old h b) {vs : List V} (H : Rd h b vs) : Rd h' b vs := by
  unfold Rd at H ⊢
  rw [e.get b hb]
  exact H

/-- some cells of a block -/
def AtL (h : Heap) (b : Pa) (off : Nat) (vs : List V) : Prop := Old h b ∧ ∃ us, Rd h b us ∧ off + vs.length ≤ us.length ∧ (us.drop off).take vs.length = vs

theorem AtL.ext {h h' : Heap} (e : Ext h h') {b : Pa} {off : Nat} {vs : List V} (H : AtL h b off vs) : AtL h' b off vs := by
  obtain ⟨h0, us, h1, h2, h3⟩ := H
  exact ⟨e.old h0, us, e.rd h0 h1, h2, h3⟩

theorem AtL.ld1 {h : Heap} {b : Pa} {off : Nat} {vs : List V} (H : AtL h b off vs) {i : Nat} (hi : i < vs.length) : ld1B (h.get b) (off + i) = some vs[i] := by
  obtain ⟨_, us, h1, h2, h3⟩ := H
  rw [h1.ld1, List.getElem?_eq_getElem (by omega)]
  congr 1
  have : ((us.drop off).take vs.length)[i]? = vs[i]? := by rw [h3]
  rw [List.getElem?_take_of_lt hi, List.getElem?_drop, List.getElem?_eq_getElem (by omega), List.getElem?_eq_getElem hi] at this
  simpa using this

theorem AtL.ldn {h : Heap} {b : Pa} {off : Nat} {vs : List V} (H : AtL h b off vs) {i n : Nat} (hi : i + n ≤ vs.length) : ldnB n (h.get b) (off + i) = some (.agg ((vs.drop i).take n)) := by
  obtain ⟨_, us, h1, h2, h3⟩ := H
  rw [h1.ldn, if_pos (by omega)]
  congr 2
  have : (((us.drop off).take vs.length).drop i).take n = (vs.drop i).take n := by rw [h3]
  rw [← this, List.drop_take, List.drop_drop, List.take_take]
  congr 1
  omega

/-- a slice of n elements, each of so many cells -/
def SlV (h : Heap) (size : Nat) (v : V) (n : Nat) (vs : List V) : Prop :=
  vs.length = n * size ∧ match v with
    | .nilslice => n = 0
    | .slice b off len _ => len = n ∧ AtL h b off vs
    | .gslice b off len _ => len = n ∧ AtL h b off vs
    | .tslice _ _ _ _ => n = 0
    | _ => False

theorem SlV.ext {h h' : Heap} (e : Ext h h') {size : Nat} {v : V} {n : Nat} {vs : List V} (H : SlV h size v n vs) : SlV h' size v n vs := by
  refine ⟨H.1, ?_⟩
  have H2 := H.2
  cases v <;> simp only at H2 ⊢ <;> first | exact H2 | exact ⟨H2.1, H2.2.ext e⟩

theorem SlV.len {h : Heap} {size : Nat} {v : V} {n : Nat} {vs : List V} (H : SlV h size v n vs) : lenSl v = some (.int .i64 n) := by
  have H2 := H.2
  cases v <;> simp only at H2 <;> first
    | (rw [← H2.1]; rfl)
    | (subst H2; rfl)
    | (exact H2.elim)

/-- the address of an element, and what stands there -/
theorem SlV.ia {h : Heap} {size : Nat} {v : V} {n : Nat} {vs : List V} (H : SlV h size v n vs) {k : IntKind} {i : Nat} (hi : i < n) :
    ∃ b off, iaV size v (.int k i) = some (.ptr b (off + i * size)) ∧ AtL h b off vs := by
  have H2 := H.2
  cases v <;> simp only at H2 <;> first
    | omega
    | (exact H2.elim)
    | skip
  · rename_i b off len cap
    obtain ⟨rfl, h1⟩ := H2
    refine ⟨b, off, ?_, h1⟩
    rw [ia_sl, if_pos (by omega)]
    simp
  · rename_i b off len cap
    obtain ⟨rfl, h1⟩ := H2
    refine ⟨b, off, ?_, h1⟩
    rw [ia_g, if_pos (by omega)]
    simp
end
end Go.Proofs.YtjbiefneffiogaaGreat.Am

namespace Go.Proofs.YtjbiefneffiogaaGreat.Am
variable [Lay]
set_option linter.unusedSectionVars false
open Go Go.RowKit

/-! What a piece of code turns; slices of one's own; append. -/
/-- the heap has grown, and of what was only such blocks have been turned -/
structure Mod (M : Pa → Prop) (h h' : Heap) : Prop where
  next : h.next ≤ h'.next
  get : ∀ b, Old h b → ¬ M b → h'.get b = h.get b

theorem Mod.refl (M : Pa → Prop) (h : Heap) : Mod M h h := ⟨Nat.le_refl _, fun _ _ _ => rfl⟩
theorem Mod.old {M : Pa → Prop} {h h' : Heap} (e : Mod M h h') {b : Pa} (hb : Old h b) : Old h' b := Nat.lt_of_lt_of_le hb e.next
theorem Mod.trans {M : Pa → Prop} {h h' h'' : Heap} (e : Mod M h h') (e' : Mod M h' h'') : Mod M h h'' :=
  ⟨Nat.le_trans e.next e'.next, fun b hb hm => (e'.get b (e.old hb) hm).trans (e.get b hb hm)⟩
theorem Mod.mono {M M' : Pa → Prop} {h h' : Heap} (e : Mod M h h') (hm : ∀ b, Old h b → M b → M' b) : Mod M' h h' :=
  ⟨e.next, fun b hb hn => e.get b hb fun q => hn (hm b hb q)⟩
theorem Mod.new {M : Pa → Prop} {h h' : Heap} (e : Mod M h h') (k : Blk) : Mod M h (h'.new k) :=
  ⟨Nat.le_succ_of_le e.next, fun b hb hm => by
    rw [get_new, if_neg (fun q => (old_ne (h := h) hb e.next) ▸ q)]
    exact e.get b hb hm⟩
theorem Mod.set {M : Pa → Prop} {h h' : Heap} (e : Mod M h h') {b : Pa} (hb : Old h b → M b) (k : Blk) : Mod M h (h'.set b k) :=
  ⟨e.next, fun b' hb' hm => by
    rw [get_set]
    by_cases q : b = b'
    · subst q
      exact absurd (hb hb') hm
    · rw [if_neg q]
      exact e.get b' hb' hm⟩
theorem Ext.mod {h h' : Heap} (e : Ext h h') (M : Pa → Prop) : Mod M h h' := ⟨e.next, fun b hb _ => e.get b hb⟩
theorem Mod.ext {M : Pa → Prop} {h h' : Heap} (e : Mod M h h') (hm : ∀ b, Old h b → ¬ M b) : Ext h h' := ⟨e.next, fun b hb => e.get b hb (hm b hb)⟩
theorem Mod.at {M : Pa → Prop} {h h' : Heap} (e : Mod M h h') {b : Pa} {off : Nat} {vs : List V} (H : AtL h b off vs) (hm : ¬ M b) : AtL h' b off vs := by
  obtain ⟨h0, us, h1, h2, h3⟩ := H
  refine ⟨e.old h0, us, ?_, h2, h3⟩
  unfold Rd at h1 ⊢
  rw [e.get b h0 hm]
  exact h1

def V.blk : V → Pa → Prop
  | .slice b _ _ _, b' => b' = b
  | .gslice b _ _ _, b' => b' = b
  | _, _ => False

theorem SlV.one {h : Heap} {size : Nat} {v : V} {n : Nat} {vs : List V} (H : SlV h size v n vs) : v.one = true ∧ v.cells = [v] ∧ v.good = true := by
  have q := H.2
  cases v <;> simp only at q <;> first | exact ⟨rfl, rfl, rfl⟩ | exact q.elim

theorem SlV.mod {M : Pa → Prop} {h h' : Heap} (e : Mod M h h') {size : Nat} {v : V} {n : Nat} {vs : List V} (H : SlV h size v n vs) (hm : ∀ b, v.blk b → ¬ M b) : SlV h' size v n vs := by
  refine ⟨H.1, ?_⟩
  have H2 := H.2
  cases v <;> simp only at H2 ⊢ <;> first | exact H2 | exact ⟨H2.1, e.at H2.2 (hm _ rfl)⟩

theorem SlV.old {h : Heap} {size : Nat} {v : V} {n : Nat} {vs : List V} (H : SlV h size v n vs) {b : Pa} (hb : v.blk b) : Old h b := by
  have H2 := H.2
  cases v <;> simp only [V.blk] at H2 hb <;> first | (exact hb.elim) | (subst hb; exact H2.2.1)

/-- a slice of one's own: it may be written, and appended to -/
def SlO (B : Nat) (h : Heap) (size : Nat) (v : V) (n : Nat) (vs : List V) : Prop :=
  vs.length = n * size ∧ match v with
    | .nilslice => n = 0
    | .slice b off len cap => len = n ∧ B ≤ unPa b ∧ Old h b ∧ n ≤ cap ∧ cap ≤ top ∧ ∃ us esz st, h.get b = .ofL us esz st ∧ off + cap * size ≤ us.length ∧ (us.drop off).take vs.length = vs
    | .gslice b off len idx => len = n ∧ B ≤ unPa b ∧ Old h b ∧ off = 0 ∧ idx = 0 ∧ ∃ us st, h.get b = .ofL us size st ∧ vs.length ≤ us.length ∧ us.take vs.length = vs
    | _ => False

theorem SlO.v {B : Nat} {h : Heap} {size : Nat} {v : V} {n : Nat} {vs : List V} (H : SlO B h size v n vs) : SlV h size v n vs := by
  obtain ⟨h1, h2⟩ := H
  refine ⟨h1, ?_⟩
  cases v <;> simp only at h2 ⊢ <;> first | exact h2 | skip
  · obtain ⟨q1, _, q2, q3, _, us, esz, st, q4, q5, q6⟩ := h2
    refine ⟨q1, q2, us, .inr ⟨esz, st, q4⟩, ?_, q6⟩
    rw [h1]
    have := Nat.mul_le_mul_right size q3
    omega
  · obtain ⟨q1, _, q2, q3, _, us, st, q4, q5, q6⟩ := h2
    subst q3
    exact ⟨q1, q2, us, .inr ⟨size, st, q4⟩, by omega, by simpa using q6⟩

theorem SlO.base {B : Nat} {h : Heap} {size : Nat} {v : V} {n : Nat} {vs : List V} (H : SlO B h size v n vs) {b : Pa} (hb : v.blk b) : B ≤ unPa b := by
  have H2 := H.2
  cases v <;> simp only [V.blk] at H2 hb <;> first | (exact hb.elim) | (subst hb; exact H2.2.1)

theorem SlO.mono {B B' : Nat} {h : Heap} {size : Nat} {v : V} {n : Nat} {vs : List V} (H : SlO B h size v n vs) (hB : B' ≤ B) : SlO B' h size v n vs := by
  refine ⟨H.1, ?_⟩
  have H2 := H.2
  cases v <;> simp only at H2 ⊢ <;> first | exact H2 | exact ⟨H2.1, Nat.le_trans hB H2.2.1, H2.2.2⟩

theorem SlO.mod {M : Pa → Prop} {h h' : Heap} (e : Mod M h h') {B size : Nat} {v : V} {n : Nat} {vs : List V} (H : SlO B h size v n vs) (hm : ∀ b, v.blk b → ¬ M b) : SlO B h' size v n vs := by
  refine ⟨H.1, ?_⟩
  have H2 := H.2
  cases v <;> simp only at H2 ⊢ <;> first | exact H2 | skip
  · obtain ⟨q1, q2, q3, q4, q5, us, esz, st, q6, q7⟩ := H2
    exact ⟨q1, q2, e.old q3, q4, q5, us, esz, st, by rw [e.get _ q3 (hm _ rfl)]; exact q6, q7⟩
  · obtain ⟨q1, q2, q3, q4, q5, us, st, q6, q7⟩ := H2
    exact ⟨q1, q2, e.old q3, q4, q5, us, st, by rw [e.get _ q3 (hm _ rfl)]; exact q6, q7⟩

theorem SlO.ext {h h' : Heap} (e : Ext h h') {B size : Nat} {v : V} {n : Nat} {vs : List V} (H : SlO B h size v n vs) : SlO B h' size v n vs :=
  H.mod (e.mod fun _ => False) fun _ _ q => q

theorem splice_get (A : List V) (o : Nat) (W : List V) (h : o + W.length ≤ A.length) (q : Nat) : (splice A o W)[q]? = if q < o then A[q]? else if q < o + W.length then W[q - o]? else A[q]? := by
  have hl : (A.take o).length = o := by rw [List.length_take]; omega
  unfold splice
  rw [List.append_assoc]
  by_cases c1 : q < o
  · rw [if_pos c1, List.getElem?_append_left (by omega), List.getElem?_take_of_lt c1]
  · rw [if_neg c1, List.getElem?_append_right (by omega), hl]
    by_cases c2 : q < o + W.length
    · rw [if_pos c2, List.getElem?_append_left (by omega)]
    · rw [if_neg c2, List.getElem?_append_right (by omega), List.getElem?_drop]
      congr 1
      omega

theorem splice_inner (A : List V) (o j : Nat) (L W : List V) (hA : o + L.length ≤ A.length) (hL : (A.drop o).take L.length = L) (hj : j + W.length ≤ L.length) : ((splice A (o + j) W).drop o).take L.length = splice L j W := by
  apply List.ext_getElem?
  intro q
  have hl : ((A.drop o).take L.length)[q]? = L[q]? := by rw [hL]
  rw [splice_get L j W hj]
  by_cases hq : q < L.length
  · rw [List.getElem?_take_of_lt hq, List.getElem?_drop, splice_get A (o + j) W (by omega)]
    rw [List.getElem?_take_of_lt hq, List.getElem?_drop] at hl
    by_cases c1 : q < j
    · rw [if_pos (by omega), if_pos c1, hl]
    · rw [if_neg (by omega), if_neg c1]
      by_cases c2 : q < j + W.length
      · rw [if_pos (by omega), if_pos c2]
        congr 1
        omega
      · rw [if_neg (by omega), if_neg c2, hl]
  · rw [List.getElem?_take_eq_none (by omega), if_neg (by omega), if_neg (by omega), List.getElem?_eq_none (by omega)]

/-- an element of a slice of one's own is laid anew -/
theorem SlO.put {B : Nat} {h : Heap} {size : Nat} {v : V} {n : Nat} {vs : List V} (H : SlO B h size v n vs) {i : Nat} (hi : i < n) {k : IntKind} {y : V} (hy : y.cells.length = size) (ho : ones y.cells = true) :
    ∃ b off h', iaV size v (.int k i) = some (.ptr b (off + i * size)) ∧ v.blk b ∧ storeV size h (.ptr b (off + i * size)) y = some h' ∧ SlO B h' size v n (splice vs (i * size) y.cells) ∧ Mod v.blk h h' := by
  obtain ⟨h1, h2⟩ := H
  have hlt : i * size + size ≤ n * size := by
    have := Nat.mul_le_mul_right size (show i + 1 ≤ n from hi)
    rw [Nat.add_mul] at this
    omega
  cases v <;> simp only at h2 <;> try (first | omega | exact h2.elim)
  case slice b off len cap =>
    obtain ⟨rfl, q2, q3, q4, q5, us0, esz, st, q6, q7, q8⟩ := h2
    have hc := Nat.mul_le_mul_right size q4
    have hroom : off + i * size + y.cells.length ≤ us0.length := by rw [hy]; omega
    refine ⟨b, off, _, ?_, rfl, Own.store (vs := us0) (esz := esz) (st := st) q6 hy (by rw [hy] at hroom; exact hroom) ho, ⟨?_, rfl, q2, q3, q4, q5, _, esz, st, get_set _ _ _ |>.trans (if_pos rfl), ?_, ?_⟩, (Mod.refl (V.blk (.slice b off len cap)) h).set (fun _ => rfl) _⟩
    · rw [ia_sl, if_pos (by omega)]; simp
    · rw [splice_length _ _ _ (by rw [hy, h1]; omega)]; exact h1
    · rw [splice_length _ _ _ hroom]; exact q7
    · rw [splice_length _ _ _ (by rw [hy, h1]; omega)]
      exact splice_inner us0 off (i * size) vs y.cells (by rw [h1]; omega) q8 (by rw [hy, h1]; omega)
  case gslice b off len idx =>
    obtain ⟨rfl, q2, q3, rfl, rfl, us0, st, q6, q7, q8⟩ := h2
    have hroom : i * size + y.cells.length ≤ vs.length := by rw [hy, h1]; omega
    have hroom0 : 0 + i * size + y.cells.length ≤ us0.length := by omega
    refine ⟨b, 0, _, ?_, rfl, Own.store (vs := us0) (esz := size) (st := st) q6 hy (by rw [hy] at hroom0; exact hroom0) ho, ⟨?_, rfl, q2, q3, rfl, rfl, _, st, get_set _ _ _ |>.trans (if_pos rfl), ?_, ?_⟩, (Mod.refl (V.blk (.gslice b 0 len 0)) h).set (fun _ => rfl) _⟩
    · rw [ia_g, if_pos (by omega)]; simp
    · rw [splice_length _ _ _ hroom]; exact h1
    · rw [splice_length _ _ _ hroom, splice_length _ _ _ hroom0]; exact q7
    · rw [splice_length _ _ _ hroom]
      have := splice_inner us0 0 (i * size) vs y.cells (by omega) (by simpa using q8) hroom
      simpa using this

/-- where a slice lies -/
def V.at (v : V) (b : Pa) (off : Nat) : Prop :=
  match v with
  | .slice b' o _ _ => b = b' ∧ off = o
  | .gslice b' o _ _ => b = b' ∧ off = o
  | _ => False

theorem bound_some {k : IntKind} {m d y : Nat} (h : m ≤ y) : bound (some (.int k (m : Int))) d y = some m := by
  simp only [bound, V.onInt, leB_dec]
  rw [show (decide ((0 : Int) ≤ (m : Int)) && decide ((m : Int) ≤ (y : Int))) = true from by simp; omega]
  simp
theorem bound_none (d y : Nat) : bound none d y = some d := rfl

/-- a slice of a slice -/
theorem SlV.cut {h : Heap} {size : Nat} {v : V} {n : Nat} {vs : List V} (H : SlV h size v n vs) {k k' : IntKind} {lo hi : Nat} (h1 : lo ≤ hi) (h2 : hi ≤ n) (lov hiv : Option V)
    (hlo : lov = some (.int k lo) ∨ lov = none ∧ lo = 0) (hhi : hiv = some (.int k' hi) ∨ hiv = none ∧ hi = n) (hcap : ∀ b off l c, v = .slice b off l c → l ≤ c) :
    ∃ v', sliceV size v lov hiv none = some v' ∧ SlV h size v' (hi - lo) ((vs.drop (lo * size)).take ((hi - lo) * size)) ∧ ∀ b, v'.blk b → v.blk b := by
  obtain ⟨q1, q2⟩ := H
  have hll : ((vs.drop (lo * size)).take ((hi - lo) * size)).length = (hi - lo) * size := by
    rw [List.length_take, List.length_drop, q1]
    have e1 := Nat.mul_le_mul_right size h1
    have e2 := Nat.mul_le_mul_right size h2
    rw [Nat.sub_mul]
    omega
  have bl : ∀ y, lo ≤ y → bound lov 0 y = some lo := by
    intro y hy
    rcases hlo with rfl | ⟨rfl, rfl⟩
    · exact bound_some hy
    · rfl
  have bh : ∀ d y, n = d → n ≤ y → bound hiv d y = some hi := by
    intro d y hd hy
    rcases hhi with rfl | ⟨rfl, rfl⟩
    · exact bound_some (by omega)
    · rw [bound_none, hd]
  have piece : ∀ (b : Pa) (off : Nat), AtL h b off vs → AtL h b (off + lo * size) ((vs.drop (lo * size)).take ((hi - lo) * size)) := by
    rintro b off ⟨a1, us, a2, a3, a4⟩
    have e1 := Nat.mul_le_mul_right size h1
    have e2 := Nat.mul_le_mul_right size h2
    refine ⟨a1, us, a2, ?_, ?_⟩
    · rw [hll, Nat.sub_mul]; omega
    · rw [hll, ← List.drop_drop]
      have : (us.drop off).drop (lo * size) = (((us.drop off).take vs.length).drop (lo * size)) ++ (us.drop off).drop vs.length := by
        rw [← List.drop_append_of_le_length (by rw [List.length_take, List.length_drop]; omega), List.take_append_drop]
      rw [this, a4, List.take_append_of_le_length (by rw [List.length_drop, q1, Nat.sub_mul]; omega)]
  cases v <;> simp only at q2 <;> try (exact q2.elim)
  case nilslice =>
    subst q2
    obtain rfl : hi = 0 := by omega
    obtain rfl : lo = 0 := by omega
    refine ⟨.nilslice, ?_, ⟨hll, rfl⟩, fun b hb => hb⟩
    simp only [sliceV, sliceNil, bh 0 0 rfl (Nat.le_refl _), bl 0 (Nat.le_refl _)]
  case slice b off len cap =>
    obtain ⟨rfl, q3⟩ := q2
    have hc := hcap b off len cap rfl
    have e : sliceV size (.slice b off len cap) lov hiv none = some (.slice b (bif Nat.beq cap lo then off else off + lo * size) (hi - lo) (cap - lo)) := by
      simp only [sliceV, sliceKnown, bh len cap rfl hc, bl hi h1]
    rw [e]
    refine ⟨_, rfl, ⟨hll, rfl, ?_⟩, fun b' hb => hb⟩
    cases hb : Nat.beq cap lo with
    | false => exact piece b off q3
    | true =>
      rw [Nat.beq_eq] at hb
      obtain rfl : hi = lo := by omega
      obtain ⟨a1, us, a2, a3, a4⟩ := q3
      refine ⟨a1, us, a2, ?_, ?_⟩ <;> simp
      omega
  case gslice b off len idx =>
    obtain ⟨rfl, q3⟩ := q2
    by_cases hlt : lo < len
    · have e : sliceV size (.gslice b off len idx) lov hiv none = some (.gslice b (off + lo * size) (hi - lo) (idx + lo)) := by
        simp only [sliceV, sliceGrown, bh len len rfl (Nat.le_refl _), bl hi h1]
        rw [show Nat.blt lo len = true from by rw [Nat.blt_eq]; exact hlt]
        rfl
      rw [e]
      exact ⟨_, rfl, ⟨hll, rfl, piece b off q3⟩, fun b' hb => hb⟩
    · have e : sliceV size (.gslice b off len idx) lov hiv none = some (.tslice b off (off + lo * size) (idx + lo)) := by
        simp only [sliceV, sliceGrown, bh len len rfl (Nat.le_refl _), bl hi h1]
        rw [show Nat.blt lo len = false from by rw [← Bool.not_eq_true, Nat.blt_eq]; exact hlt]
        rfl
      rw [e]
      exact ⟨_, rfl, ⟨hll, by omega⟩, fun b' hb => hb.elim⟩
  case tslice b off off' idx =>
    subst q2
    obtain rfl : hi = 0 := by omega
    obtain rfl : lo = 0 := by omega
    refine ⟨.tslice b off off' idx, ?_, ⟨hll, rfl⟩, fun b hb => hb⟩
    simp only [sliceV, sliceTail, bh 0 0 rfl (Nat.le_refl _), bl 0 (Nat.le_refl _)]

/-- the beginning of a slice of one's own -/
theorem SlO.cut {B : Nat} {h : Heap} {size : Nat} {v : V} {n : Nat} {vs : List V} (H : SlO B h size v n vs) {k : IntKind} {m : Nat} (hm : m ≤ n) (hn : 1 ≤ n) :
    ∃ v', sliceV size v none (some (.int k m)) none = some v' ∧ SlO B h size v' m (vs.take (m * size)) ∧ ∀ b, v'.blk b → v.blk b := by
  obtain ⟨q1, q2⟩ := H
  have hmm := Nat.mul_le_mul_right size hm
  have hll : (vs.take (m * size)).length = m * size := by rw [List.length_take]; omega
  cases v <;> simp only at q2 <;> try (first | omega | exact q2.elim)
  case slice b off len cap =>
    obtain ⟨rfl, q3, q4, q5, q6, us, esz, st, q7, q8, q9⟩ := q2
    have e : sliceV size (.slice b off len cap) none (some (.int k m)) none = some (.slice b off m cap) := by
      simp only [sliceV, sliceKnown, bound_some (show m ≤ cap by omega), bound_none]
      cases Nat.beq cap 0 <;> simp
    rw [e]
    refine ⟨_, rfl, ⟨hll, rfl, q3, q4, by omega, q6, us, esz, st, q7, q8, ?_⟩, fun b' hb => hb⟩
    rw [hll, ← q9, List.take_take]
    congr 1
    omega
  case gslice b off len idx =>
    obtain ⟨rfl, q3, q4, rfl, rfl, us, st, q7, q8, q9⟩ := q2
    have e : sliceV size (.gslice b 0 len 0) none (some (.int k m)) none = some (.gslice b 0 m 0) := by
      simp only [sliceV, sliceGrown, bound_some hm, bound_none]
      rw [show Nat.blt 0 len = true from by rw [Nat.blt_eq]; omega]
      simp
    rw [e]
    refine ⟨_, rfl, ⟨hll, rfl, q3, q4, rfl, rfl, us, st, q7, by omega, ?_⟩, fun b' hb => hb⟩
    rw [hll, ← q9, List.take_take]
    congr 1
    omega

/-- the cells of an element, of a slice of one's own: loads at its address -/
theorem AtL.cell {h : Heap} {b : Pa} {off : Nat} {vs : List V} (H : AtL h b off vs) {i j n : Nat} {ws : List V} (hw : (vs.drop i).take n = ws) (hi : i + n ≤ vs.length) (hj : j < n) : ld1B (h.get b) (off + i + j) = ws[j]? := by
  rw [Nat.add_assoc, H.ld1 (by omega), ← hw, List.getElem?_take_of_lt hj, List.getElem?_drop, List.getElem?_eq_getElem]
end Go.Proofs.YtjbiefneffiogaaGreat.Am

namespace Go.Proofs.YtjbiefneffiogaaGreat.Am
variable [Lay]
set_option linter.unusedSectionVars false
open Go Go.RowKit

/-! Arguments: what a call is handed, laid into the machine as views. -/

/-- what is below the end of memory stays: all that the machine knows stays true -/
theorem Sim.below {w0 : Fr} {E : Env} {h : Heap} {w w' : World} (s : Sim w0 E h w) (hb : Below w.heap.size w w') : Sim w0 E h w' := by
  have hsz : w0.w.heap.size ≤ w.heap.size := s.frame.size
  have keep : ∀ (k : Nat) (o : Obj), w.heap[k]? = some o → w'.heap[k]? = some o := by
    intro k o hk
    rw [hb.block k, hk]
    by_cases hlt : k < w.heap.size
    · exact hlt
    · rw [Array.getElem?_eq_none (by omega)] at hk
      cases hk
  refine ⟨fun b hp => ?_, s.pen, s.inj, s.fresh, s.frame.trans (hb.mono hsz), s.laid, s.base⟩
  have := s.blk b hp
  cases hk : h.get b <;> rw [hk] at this <;> simp only [BlkRel] at this ⊢
  · obtain ⟨q1, p, c, el, fz, q2, q3, q4, q5⟩ := this
    exact ⟨q1, p, c, el, fz, q2, q3, keep _ _ q4, q5⟩
  · obtain ⟨q1, p, c, el, fz, q2, q3, q4, q5⟩ := this
    exact ⟨q1, p, c, el, fz, q2, q3, keep _ _ q4, q5⟩
  · obtain ⟨p, q1, q2, q3, q4⟩ := this
    exact ⟨p, q1, q2, q3, keep _ _ q4⟩
  · obtain ⟨p, a, q1, q2, q3, q4⟩ := this
    exact ⟨p, a, q1, q2, keep _ _ q3, q4⟩

/-- a closed call, whatever the memory -/
theorem closed_callsV {P : Program} {f : FuncId} {v : V} (hv : ∀ E x, x = .bool true → Rel E v x) (hfn : ∃ fn, P.funcs[f]? = some fn ∧ fn.body.isSome = true) (H : ∀ w, Lay.ok w → Calls P f #[] w fun e w' => e = .returned (.bool true) ∧ Below w.heap.size w w') (h : Heap) :
    CallsV P f [] h v h := by
  refine .inl ⟨hfn, fun w0 E w xs hx s => ?_⟩
  simp only [RelL] at hx
  subst hx
  refine (H w (Lay.keep s.laid s.frame)).mono fun e w' q => ?_
  obtain ⟨rfl, hb⟩ := q
  exact ⟨E, _, rfl, fun _ _ q => q, hv E _ rfl, s.below hb⟩

/-- a view of what the memory holds, laid into the machine -/
noncomputable def viewE (E : Env) (h : Heap) (p : Pl) : Env := fun b => if b = pa h.next then some p else E b
theorem viewE_self (E : Env) (h : Heap) (p : Pl) : viewE E h p (pa h.next) = some p := if_pos rfl
theorem viewE_le {w0 : Fr} {E : Env} {h : Heap} {w : World} (s : Sim w0 E h w) (p : Pl) : E.le (viewE E h p) := fun b q hq => by
  unfold viewE
  rw [if_neg (fun e => by rw [e, s.fresh _ (Nat.le_refl _)] at hq; cases hq)]
  exact hq

theorem sim_new {W : World} {E : Env} {h : Heap} (s : Sim ⟨W, fun _ => none⟩ E h W) (p : Pl) (k : Blk) (ho : k.own = false) (hk : BlkRel W.heap.size (viewE E h p) W (pa h.next) k) :
    Sim ⟨W, fun _ => none⟩ (viewE E h p) (h.new k) W := by
  refine ⟨fun b _ => ?_, fun _ _ h => (by cases h), fun b b' q q' h1 h2 e1 e2 hq => ?_, fun i hi => ?_, s.frame, s.laid, fun b q n cs st h1 e1 => by
    rw [get_new] at h1
    by_cases c1 : pa h.next = b
    · rw [if_pos c1] at h1; rw [h1] at ho; cases ho
    · rw [if_neg c1] at h1
      unfold viewE at e1
      rw [if_neg (fun e => c1 e.symm)] at e1
      exact s.base _ _ _ _ _ h1 e1⟩
  · rw [get_new]
    by_cases e : pa h.next = b
    · subst e
      rw [if_pos rfl]
      exact hk
    · rw [if_neg e]
      exact (s.blk b rfl).mono (viewE_le s p)
  · rw [get_new] at h1 h2
    by_cases c1 : pa h.next = b
    · rw [if_pos c1, ho] at h1; cases h1
    · by_cases c2 : pa h.next = b'
      · rw [if_pos c2, ho] at h2; cases h2
      · rw [if_neg c1] at h1
        rw [if_neg c2] at h2
        unfold viewE at e1 e2
        rw [if_neg (fun e => c1 e.symm)] at e1
        rw [if_neg (fun e => c2 e.symm)] at e2
        exact s.inj b b' q q' h1 h2 e1 e2 hq
  · rw [next_new] at hi
    unfold viewE
    rw [if_neg (fun e => by have := pa_inj e; omega)]
    exact s.fresh i (by omega)

theorem sim_view {W : World} {E : Env} {h : Heap} (s : Sim ⟨W, fun _ => none⟩ E h W) {k base cap : Nat} {c : Array Value} {el : TypeId} {fz : Nat × Nat} (hk : W.heap[k]? = some (.cells c el fz)) {vs : List V}
    (hc : base + vs.length ≤ c.size) (hr : ∀ i v y, vs[i]? = some v → c[base + i]? = some y → Rel E v y) :
    Sim ⟨W, fun _ => none⟩ (viewE E h ⟨k, base, cap⟩) (h.new (.ro vs)) W := by
  refine sim_new s _ _ rfl ?_
  have hlt : k < W.heap.size := by
    by_cases hlt : k < W.heap.size
    · exact hlt
    · rw [Array.getElem?_eq_none (by omega)] at hk
      cases hk
  refine ⟨trivial, ⟨k, base, cap⟩, c, el, fz, viewE_self _ _ _, hlt, hk, hc, fun i y hi hy => ?_⟩
  have : T.get .bad (pa i) (puts .e 0 vs) = vs[i] := by
    have := get_puts vs 0 i .e
    rw [Nat.zero_add] at this
    rw [this, if_pos hi, List.getElem?_eq_getElem hi]
    rfl
  rw [this]
  exact Rel.mono (viewE_le s _) _ _ (hr i _ y (List.getElem?_eq_getElem hi) hy)
end Go.Proofs.YtjbiefneffiogaaGreat.Am

namespace Go.Proofs.YtjbiefneffiogaaGreat.Am
variable [Lay]
set_option linter.unusedSectionVars false
set_option linter.unusedVariables false
open Go Go.RowKit

/-! What is handed in, by its type. -/
section
variable (P : Program)

/-- a struct's fields lie one behind the other -/
def tiles : List Field → Nat → Option Nat
  | [], o => some o
  | f :: fs, o => if f.offset = o then tiles fs (o + P.cellsOf f.type) else none
def tilesB : Bool := (List.range P.types.size).all fun t => match P.underlying t with
  | some (.struct fs) => decide (tiles P fs.toList 0 = some (P.cellsOf t))
  | _ => true

/-- cells of a type, as the machine holds what was handed in -/
def Shp (h : Heap) : Nat → TypeId → List V → Prop
  | 0, _, _ => False
  | n + 1, t, vs => match P.underlying t with
    | some .bool => ∃ b, vs = [.bool b]
    | some (.int k) => ∃ i, vs = [.int k i] ∧ (Lit.int k i).wf = true
    | some .string => ∃ s : List UInt8, vs = [.str s] ∧ s.length ≤ maxLen
    | some (.slice e) => vs = [.nilslice] ∨ (∃ b i j k, vs = [.tslice b i j k]) ∨ P.cellsOf e = 0 ∨
        ∃ b len cap, vs = [.slice b 0 len cap] ∧ 0 < len ∧ len ≤ cap ∧ cap ≤ maxLen ∧ Old h b ∧ ∃ us, Rd h b us ∧ us.length = len * P.cellsOf e ∧ ∀ i, i < len → Shp h n e ((us.drop (i * P.cellsOf e)).take (P.cellsOf e))
    | some (.struct fs) => vs.length = P.cellsOf t ∧ ∀ f ∈ fs.toList, Shp h n f.type ((vs.drop f.offset).take (P.cellsOf f.type))
    | some (.pointer e) => vs = [.nilptr] ∨ P.cellsOf e = 0 ∨ ∃ b, vs = [.ptr b 0] ∧ Old h b ∧ ∃ us, Rd h b us ∧ us.length = P.cellsOf e ∧ Shp h n e us
    | some (.map _ _) => vs = [.nilmap] ∨ vs = [.bad]
    | some (.interface _) => vs = [.nilIface] ∨ vs = [.bad]
    | _ => True
end

theorem Shp.ext {P : Program} {h h' : Heap} (e : Ext h h') : ∀ (n : Nat) (t : TypeId) (vs : List V), Shp P h n t vs → Shp P h' n t vs
  | 0, _, _, H => H
  | n + 1, t, vs, H => by
    unfold Shp at H ⊢
    split at H <;> try exact H
    · rcases H with H | H | H | ⟨b, len, cap, h1, h2, h3, h4, h5, h6⟩
      · exact .inl H
      · exact .inr (.inl H)
      · exact .inr (.inr (.inl H))
      · refine .inr (.inr (.inr ⟨b, len, cap, h1, h2, h3, h4, e.old h5, ?_⟩))
        obtain ⟨us, k1, k2, k3⟩ := h6
        exact ⟨us, e.rd h5 k1, k2, fun i hi => Shp.ext e n _ _ (k3 i hi)⟩
    · exact ⟨H.1, fun f hf => Shp.ext e n _ _ (H.2 f hf)⟩
    · rcases H with H | H | ⟨b, h1, h5, h6⟩
      · exact .inl H
      · exact .inr (.inl H)
      · refine .inr (.inr ⟨b, h1, e.old h5, ?_⟩)
        obtain ⟨us, k1, k2, k3⟩ := h6
        exact ⟨us, e.rd h5 k1, k2, Shp.ext e n _ _ k3⟩

theorem cells_get {w : World} {base : Nat} {a : Addr} {n : Nat} {l : List Value} (h : w.cells? base a n = some l) : l.length = n ∧ ∀ i, i < n → w.cell? (a.add i) = l[i]? := by
  unfold World.cells? at h
  split at h
  · exact ⟨by simpa using mapM_some_length h, fun i hi => mapM_some_get h i i (by simp [hi])⟩
  · cases h

theorem relL_mono {E E' : Env} (he : E.le E') {vs : List V} {l : List Value} (H : RelL E vs l) : RelL E' vs l := RelL.mono he vs l H

section
variable {H : Type} {enc : TypeId × Value → H} {P : Program} {W : World} {base : Nat} {sp : Nat → Bool} {held : Bool}

/-- what the reading of cells brings -/
def Lays (P : Program) (W : World) (n : Nat) (t : TypeId) (cs : List Value) : Prop :=
  ∀ (E : Env) (h : Heap), Sim ⟨W, fun _ => none⟩ E h W → ∃ E' h' vs, E.le E' ∧ Ext h h' ∧ Sim ⟨W, fun _ => none⟩ E' h' W ∧ RelL E' vs cs ∧ vs.length = cs.length ∧ Shp P h' n t vs

/-- pieces, one behind the other -/
theorem lays_pieces (n size : Nat) (e : TypeId) : ∀ (pieces : List (List Value)), (∀ l ∈ pieces, l.length = size ∧ Lays P W n e l) →
    ∀ (E : Env) (h : Heap), Sim ⟨W, fun _ => none⟩ E h W → ∃ E' h' us, E.le E' ∧ Ext h h' ∧ Sim ⟨W, fun _ => none⟩ E' h' W ∧ RelL E' us pieces.flatten ∧ us.length = pieces.length * size ∧
      ∀ i, i < pieces.length → Shp P h' n e ((us.drop (i * size)).take size)
  | [], _, E, h, s => ⟨E, h, [], fun _ _ q => q, Ext.refl h, s, rfl, by simp, fun i hi => by simp at hi⟩
  | l :: ls, hp, E, h, s => by
    obtain ⟨hl, H⟩ := hp l (by simp)
    obtain ⟨E1, h1, vs, a1, a2, a3, a4, a5, a6⟩ := H E h s
    obtain ⟨E2, h2, us, b1, b2, b3, b4, b5, b6⟩ := lays_pieces n size e ls (fun l hl => hp l (by simp [hl])) E1 h1 a3
    refine ⟨E2, h2, vs ++ us, a1.trans b1, a2.trans b2, b3, ?_, ?_, ?_⟩
    · rw [List.flatten_cons]
      exact RelL.append (relL_mono b1 a4) b4
    · rw [List.length_append, b5, a5, hl, List.length_cons, Nat.add_mul]
      omega
    · intro i hi
      cases i with
      | zero =>
        rw [Nat.zero_mul, List.drop_zero, List.take_left' (by rw [a5, hl])]
        exact Shp.ext b2 _ _ _ a6
      | succ i =>
        rw [Nat.add_mul, Nat.one_mul, Nat.add_comm, ← List.drop_drop, List.drop_left' (by rw [a5, hl])]
        exact b6 i (by simpa using hi)

/-- the fields of a struct -/
theorem lays_fields (n : Nat) : ∀ (fs : List Field) (o o' : Nat) (cs : List Value), tiles P fs o = some o' → cs.length = o' → (∀ f ∈ fs, Lays P W n f.type ((cs.drop f.offset).take (P.cellsOf f.type))) →
    o ≤ o' ∧ ∀ (E : Env) (h : Heap), Sim ⟨W, fun _ => none⟩ E h W → ∃ E' h' vs, E.le E' ∧ Ext h h' ∧ Sim ⟨W, fun _ => none⟩ E' h' W ∧ RelL E' vs (cs.drop o) ∧ vs.length = o' - o ∧
      ∀ f ∈ fs, o ≤ f.offset ∧ Shp P h' n f.type ((vs.drop (f.offset - o)).take (P.cellsOf f.type))
  | [], o, o', cs, ht, hl, _ => by
    simp only [tiles, Option.some.injEq] at ht
    subst ht
    refine ⟨Nat.le_refl _, fun E h s => ⟨E, h, [], fun _ _ q => q, Ext.refl h, s, ?_, by simp, fun f hf => by simp at hf⟩⟩
    rw [List.drop_eq_nil_of_le (by omega)]
    rfl
  | f :: fs, o, o', cs, ht, hl, hp => by
    simp only [tiles] at ht
    by_cases hf : f.offset = o
    · rw [if_pos hf] at ht
      obtain ⟨g1, g2⟩ := lays_fields n fs (o + P.cellsOf f.type) o' cs ht hl (fun f hf => hp f (by simp [hf]))
      refine ⟨by omega, fun E h s => ?_⟩
      have hpf := hp f (by simp)
      obtain ⟨E1, h1, vs, a1, a2, a3, a4, a5, a6⟩ := hpf E h s
      obtain ⟨E2, h2, us, b1, b2, b3, b4, b5, b6⟩ := g2 E1 h1 a3
      have hvl : vs.length = P.cellsOf f.type := by rw [a5, List.length_take, List.length_drop, hf]; omega
      refine ⟨E2, h2, vs ++ us, a1.trans b1, a2.trans b2, b3, ?_, ?_, ?_⟩
      · have e : cs.drop o = (cs.drop f.offset).take (P.cellsOf f.type) ++ cs.drop (o + P.cellsOf f.type) := by
          rw [hf, ← List.drop_drop, List.take_append_drop]
        rw [e]
        exact RelL.append (relL_mono b1 a4) b4
      · rw [List.length_append, hvl, b5]
        omega
      · intro g hg
        rcases List.mem_cons.1 hg with rfl | hg
        · refine ⟨by omega, ?_⟩
          rw [hf, Nat.sub_self, List.drop_zero, List.take_left' hvl]
          exact Shp.ext b2 _ _ _ a6
        · obtain ⟨c1, c2⟩ := b6 g hg
          refine ⟨by omega, ?_⟩
          rw [show g.offset - o = P.cellsOf f.type + (g.offset - (o + P.cellsOf f.type)) from by omega, ← List.drop_drop, List.drop_left' hvl]
          exact c2
    · rw [if_neg hf] at ht
      cases ht

theorem cell_some {w : World} {a : Addr} {y : Value} (h : w.cell? a = some y) : a.spot = none ∧ ∃ c el fz, w.heap[a.block]? = some (.cells c el fz) ∧ c[a.off]? = some y := by
  refine ⟨World.cell?_spot h, ?_⟩
  unfold World.cell? at h
  split at h
  · rename_i c el fz hh
    split at h
    · cases h
    · exact ⟨c, el, fz, hh, h⟩
  · cases h

theorem add_block (a : Addr) (n : Nat) : (a.add n).block = a.block := by unfold Addr.add; split <;> rfl
theorem add_off (a : Addr) (n : Nat) : (a.add n).off = a.off + n := by unfold Addr.add; split <;> simp_all

/-- a row of cells, from the first on -/
theorem row_cells {w : World} {a : Addr} {l : List Value} (h0 : 0 < l.length) (h : ∀ i, i < l.length → w.cell? (a.add i) = l[i]?) :
    a.spot = none ∧ ∃ c el fz, w.heap[a.block]? = some (.cells c el fz) ∧ a.off + l.length ≤ c.size ∧ ∀ i, i < l.length → c[a.off + i]? = l[i]? := by
  have hc0 : w.cell? (a.add 0) = some l[0] := by rw [h 0 h0]; exact List.getElem?_eq_getElem h0
  obtain ⟨s1, c, el, fz, s2, s3⟩ := cell_some hc0
  have e0 : a.add 0 = a := by unfold Addr.add; simp
  rw [e0] at s1 s2 s3
  have key : ∀ i, i < l.length → c[a.off + i]? = l[i]? := by
    intro i hi
    have q := h i hi
    rw [List.getElem?_eq_getElem hi] at q ⊢
    obtain ⟨_, c', el', fz', t2, t3⟩ := cell_some q
    rw [add_block, s2] at t2
    rw [add_off] at t3
    simp only [Option.some.injEq, Obj.cells.injEq] at t2
    obtain ⟨rfl, _, _⟩ := t2
    exact t3
  refine ⟨s1, c, el, fz, s2, ?_, key⟩
  have := key (l.length - 1) (by omega)
  rw [List.getElem?_eq_getElem (by omega)] at this
  have hlt := (Array.getElem?_eq_some_iff.1 this).1
  omega

/-- a view of a row -/
theorem view_row {E : Env} {h : Heap} (s : Sim ⟨W, fun _ => none⟩ E h W) {a : Addr} {cap : Nat} {l : List Value} (h0 : 0 < l.length) (hc : ∀ i, i < l.length → W.cell? (a.add i) = l[i]?) {us : List V} (hr : RelL E us l) :
    ∃ E' h' b, E.le E' ∧ Ext h h' ∧ Sim ⟨W, fun _ => none⟩ E' h' W ∧ Old h' b ∧ a.spot = none ∧ E' b = some ⟨a.block, a.off, cap⟩ ∧ Rd h' b us := by
  obtain ⟨s1, c, el, fz, s2, s3, s4⟩ := row_cells h0 hc
  have hul : us.length = l.length := (RelL.length hr).symm
  refine ⟨viewE E h ⟨a.block, a.off, cap⟩, h.new (.ro us), pa h.next, viewE_le s _, (Ext.refl h).new _, sim_view s s2 (by omega) fun i v y hv hy => ?_, old_self, s1, viewE_self _ _ _, .inl (get_new_self _)⟩
  have hi : i < l.length := by
    have := (List.getElem?_eq_some_iff.1 hv).1
    omega
  rw [s4 i hi] at hy
  obtain ⟨y', e1, e2⟩ := RelL.get hr i v hv
  rw [hy] at e1
  simp only [Option.some.injEq] at e1
  rw [e1]
  exact e2

theorem flatten_get {α : Type} (size : Nat) : ∀ (pieces : List (List α)) (i j : Nat), (∀ l ∈ pieces, l.length = size) → i < pieces.length → j < size → pieces.flatten[i * size + j]? = (pieces[i]?).bind (·[j]?)
  | [], i, j, _, hi, _ => by simp at hi
  | l :: ls, i, j, hp, hi, hj => by
    have hl : l.length = size := hp l (by simp)
    cases i with
    | zero =>
      rw [Nat.zero_mul, Nat.zero_add, List.flatten_cons, List.getElem?_append_left (by omega)]
      simp
    | succ i =>
      rw [List.flatten_cons, List.getElem?_append_right (by rw [hl, Nat.add_mul]; omega)]
      rw [show (i + 1) * size + j - l.length = i * size + j from by rw [hl, Nat.add_mul]; omega]
      rw [flatten_get size ls i j (fun l hl => hp l (by simp [hl])) (by simpa using hi) hj]
      simp
theorem flatten_len {α : Type} (size : Nat) : ∀ (pieces : List (List α)), (∀ l ∈ pieces, l.length = size) → pieces.flatten.length = pieces.length * size
  | [], _ => by simp
  | l :: ls, hp => by
    rw [List.flatten_cons, List.length_append, flatten_len size ls (fun l hl => hp l (by simp [hl])), hp l (by simp), List.length_cons, Nat.add_mul]
    omega

theorem pick_all {α : Type} (R : Nat → α → Prop) : ∀ (len : Nat), (∀ i, i < len → ∃ l, R i l) → ∃ ps : List α, ps.length = len ∧ ∀ i l, ps[i]? = some l → R i l
  | 0, _ => ⟨[], rfl, fun i l q => by simp at q⟩
  | m + 1, h => by
    obtain ⟨ps, q1, q2⟩ := pick_all R m (fun i hi => h i (by omega))
    obtain ⟨l, h1⟩ := h m (by omega)
    refine ⟨ps ++ [l], by simp [q1], fun i l' hl' => ?_⟩
    by_cases hi : i < ps.length
    · rw [List.getElem?_append_left hi] at hl'
      exact q2 i l' hl'
    · rw [List.getElem?_append_right (by omega)] at hl'
      have e0 : i - ps.length = 0 := by
        by_cases q : i - ps.length = 0
        · exact q
        · rw [List.getElem?_eq_none (by simp; omega)] at hl'
          cases hl'
      rw [e0] at hl'
      simp at hl'
      subst hl'
      obtain rfl : i = m := by omega
      exact h1

/-- WHATEVER CAN BE READ LIES SO IN THE MACHINE. -/
theorem lays (hT : tilesB P = true) (hL : laidOutB P = true) : ∀ (n : Nat) (t : TypeId) (cs : List Value) (x : DataW H × List MemPlace), t < P.types.size → DataW.trod enc P W base sp held n t cs = some x → Lays P W n t cs
  | 0, t, cs, x, _, h => by simp [DataW.trod] at h
  | n + 1, t, cs, x, hlt, h => by
    have bads : ∀ (cs : List Value), (∀ h' vs, vs.length = cs.length → Shp P h' (n + 1) t vs) → Lays P W (n + 1) t cs := by
      intro cs H E h s
      refine ⟨E, h, cs.map fun _ => .bad, fun _ _ q => q, Ext.refl h, s, ?_, by simp, H _ _ (by simp)⟩
      clear H
      induction cs with
      | nil => rfl
      | cons c cs ih => exact ⟨c, cs, rfl, by simp [Rel], ih⟩
    cases hu : P.underlying t with
    | none =>
      refine bads cs fun h' vs _ => ?_
      simp only [Shp, hu]
    | some u =>
      cases u with
      | bool =>
        obtain ⟨b, rfl, _⟩ := DataW.trod_bool hu h
        intro E h s
        exact ⟨E, h, [.bool b], fun _ _ q => q, Ext.refl h, s, ⟨_, _, rfl, rfl, rfl⟩, rfl, by simp only [Shp, hu]; exact ⟨b, rfl⟩⟩
      | int k =>
        obtain ⟨i, rfl, _, hw⟩ := DataW.trod_int hu h
        intro E h s
        exact ⟨E, h, [.int k i], fun _ _ q => q, Ext.refl h, s, ⟨_, _, rfl, rfl, rfl⟩, rfl, by simp only [Shp, hu]; exact ⟨i, rfl, hw⟩⟩
      | string =>
        obtain ⟨b, rfl, _, hw⟩ := DataW.trod_string hu h
        intro E h s
        exact ⟨E, h, [.str b.data.toList], fun _ _ q => q, Ext.refl h, s, ⟨_, _, rfl, rfl, rfl⟩, rfl, by simp only [Shp, hu]; exact ⟨_, rfl, by simpa using hw⟩⟩
      | struct fs =>
        obtain ⟨xs, n', hn, _, hl, hxl, hf⟩ := DataW.trod_struct hu h
        obtain rfl : n = n' := by omega
        have htile : tiles P fs.toList 0 = some (P.cellsOf t) := by
          unfold tilesB at hT
          rw [List.all_eq_true] at hT
          have := hT t (List.mem_range.2 hlt)
          rw [hu] at this
          exact of_decide_eq_true this
        have hfl : ∀ f ∈ fs.toList, Lays P W n f.type ((cs.drop f.offset).take (P.cellsOf f.type)) := by
          intro f hf'
          obtain ⟨i, hi⟩ := List.getElem?_of_mem hf'
          have hi' : fs[i]? = some f := by simpa using hi
          have := hf i f hi'
          have hlx : i < xs.length := by
            rw [hxl]
            exact (Array.getElem?_eq_some_iff.1 hi').1
          rw [List.getElem?_eq_getElem hlx] at this
          exact lays hT hL n _ _ _ ((kid_struct hL hlt hu).1 f hf') this
        intro E h s
        obtain ⟨_, g⟩ := lays_fields n fs.toList 0 _ cs htile hl hfl
        obtain ⟨E', h', vs, a1, a2, a3, a4, a5, a6⟩ := g E h s
        refine ⟨E', h', vs, a1, a2, a3, by simpa using a4, by rw [a5, hl]; omega, ?_⟩
        simp only [Shp, hu]
        refine ⟨by omega, fun f hf' => ?_⟩
        simpa using (a6 f hf').2
      | slice e =>
        rcases DataW.trod_slice hu h with ⟨rfl, _⟩ | ⟨a, len, cap, elems, rest, n', hn, rfl, _, hb, hlc, hcm, hel, hget, _, _⟩
        · intro E h s
          exact ⟨E, h, [.nilslice], fun _ _ q => q, Ext.refl h, s, ⟨_, _, rfl, rfl, rfl⟩, rfl, by simp only [Shp, hu]; exact .inl trivial⟩
        · obtain rfl : n = n' := by omega
          by_cases hs : P.cellsOf e = 0
          · refine bads _ fun h' vs _ => ?_
            simp only [Shp, hu]
            exact .inr (.inr (.inl hs))
          by_cases hl0 : len = 0
          · subst hl0
            intro E h s
            refine ⟨E, h, [.tslice .z 0 0 0], fun _ _ q => q, Ext.refl h, s, ⟨_, _, rfl, ?_, rfl⟩, rfl, by simp only [Shp, hu]; exact .inr (.inl ⟨_, _, _, _, rfl⟩)⟩
            simp only [Rel]
            exact ⟨_, _, rfl⟩
          · -- its elements
            have hpe : ∀ i, i < len → ∃ l, W.cells? base (a.add (i * P.cellsOf e)) (P.cellsOf e) = some l ∧ Lays P W n e l := by
              intro i hi
              have := hget i hi
              rw [List.getElem?_eq_getElem (by omega)] at this
              rw [Option.bind_eq_some_iff] at this
              obtain ⟨l, h1, h2⟩ := this
              exact ⟨l, h1, lays hT hL n _ _ _ (kid_slice hL hlt hu) h2⟩
            obtain ⟨pieces, hp1, hp2⟩ : ∃ pieces : List (List Value), pieces.length = len ∧ ∀ i (l : List Value), pieces[i]? = some l → W.cells? base (a.add (i * P.cellsOf e)) (P.cellsOf e) = some l ∧ Lays P W n e l := by
              exact pick_all (fun i l => W.cells? base (a.add (i * P.cellsOf e)) (P.cellsOf e) = some l ∧ Lays P W n e l) len hpe
            have hpl : ∀ l ∈ pieces, l.length = P.cellsOf e ∧ Lays P W n e l := by
              intro l hl
              obtain ⟨i, hi⟩ := List.getElem?_of_mem hl
              obtain ⟨q1, q2⟩ := hp2 i l hi
              exact ⟨(cells_get q1).1, q2⟩
            intro E h s
            obtain ⟨E1, h1, us, a1, a2, a3, a4, a5, a6⟩ := lays_pieces n (P.cellsOf e) e pieces hpl E h s
            have hfl := flatten_len (P.cellsOf e) pieces (fun l hl => (hpl l hl).1)
            have hpos : 0 < len * P.cellsOf e := Nat.mul_pos (by omega) (by omega)
            have hcell : ∀ i, i < pieces.flatten.length → W.cell? (a.add i) = pieces.flatten[i]? := by
              intro q hq
              rw [hfl] at hq
              have hmod : q % P.cellsOf e < P.cellsOf e := Nat.mod_lt _ (by omega)
              have hdiv : q / P.cellsOf e < pieces.length := Nat.div_lt_of_lt_mul (by rw [Nat.mul_comm]; exact hq)
              have hq2 : q / P.cellsOf e * P.cellsOf e + q % P.cellsOf e = q := by rw [Nat.mul_comm]; exact Nat.div_add_mod q _
              rw [← hq2, flatten_get (P.cellsOf e) pieces _ _ (fun l hl => (hpl l hl).1) hdiv hmod, List.getElem?_eq_getElem hdiv]
              obtain ⟨q1, _⟩ := hp2 _ _ (List.getElem?_eq_getElem hdiv)
              have := (cells_get q1).2 _ hmod
              rw [Option.bind_some, ← this]
              congr 1
              unfold Addr.add
              by_cases z1 : q / P.cellsOf e * P.cellsOf e = 0
              · rw [z1]; simp
              · by_cases z2 : q % P.cellsOf e = 0
                · rw [z2]; simp
                · have z3 : ¬ (q / P.cellsOf e * P.cellsOf e + q % P.cellsOf e = 0) := by omega
                  rw [if_neg z1, if_neg z2, if_neg z3]
                  simp [Nat.add_assoc]
            obtain ⟨E2, h2, b, b1, b2, b3, b4, b5, b6, b7⟩ := view_row a3 (cap := cap) (by rw [hfl, hp1]; exact hpos) hcell a4
            refine ⟨E2, h2, [.slice b 0 len cap], a1.trans b1, a2.trans b2, b3, ⟨_, _, rfl, ?_, rfl⟩, rfl, ?_⟩
            · simp only [Rel]
              refine ⟨_, b6, hlc, ?_⟩
              obtain ⟨bl, of', st⟩ := a
              simp only at b5
              subst b5
              rfl
            · simp only [Shp, hu]
              refine .inr (.inr (.inr ⟨b, len, cap, rfl, by omega, hlc, hcm, b4, us, b7, by rw [a5, hp1], fun i hi => Shp.ext b2 _ _ _ (a6 i (by omega))⟩))
      | pointer e =>
        rcases DataW.trod_pointer hu h with ⟨rfl, _⟩ | ⟨a, cs', y, n', hn, rfl, _, hc, hy⟩
        · intro E h s
          exact ⟨E, h, [.nilptr], fun _ _ q => q, Ext.refl h, s, ⟨_, _, rfl, rfl, rfl⟩, rfl, by simp only [Shp, hu]; exact .inl trivial⟩
        · obtain rfl : n = n' := by omega
          by_cases hs : P.cellsOf e = 0
          · refine bads _ fun h' vs _ => ?_
            simp only [Shp, hu]
            exact .inr (.inl hs)
          · intro E h s
            obtain ⟨q1, q2⟩ := cells_get hc
            obtain ⟨E1, h1, us, a1, a2, a3, a4, a5, a6⟩ := lays hT hL n _ _ _ (kid_pointer hL hlt hu) hy E h s
            obtain ⟨E2, h2, b, b1, b2, b3, b4, b5, b6, b7⟩ := view_row a3 (cap := 0) (by omega) (fun i hi => q2 i (by omega)) a4
            refine ⟨E2, h2, [.ptr b 0], a1.trans b1, a2.trans b2, b3, ⟨_, _, rfl, ?_, rfl⟩, rfl, ?_⟩
            · simp only [Rel]
              refine ⟨_, b6, ?_⟩
              obtain ⟨bl, of', st⟩ := a
              simp only at b5
              subst b5
              rfl
            · simp only [Shp, hu]
              exact .inr (.inr ⟨b, rfl, b4, us, b7, by omega, Shp.ext b2 _ _ _ a6⟩)
      | map k e =>
        have hcs : cs.length = 1 := by
          unfold DataW.trod at h
          rw [hu] at h
          split at h <;> simp_all
        intro E h s
        refine ⟨E, h, [.bad], fun _ _ q => q, Ext.refl h, s, ?_, by simp [hcs], by simp only [Shp, hu]; exact .inr trivial⟩
        match cs, hcs with
        | [c], _ => exact ⟨c, [], rfl, by simp [Rel], rfl⟩
      | interface ms =>
        have hcs : cs.length = 1 := by
          unfold DataW.trod at h
          rw [hu] at h
          split at h <;> simp_all
        intro E h s
        refine ⟨E, h, [.bad], fun _ _ q => q, Ext.refl h, s, ?_, by simp [hcs], by simp only [Shp, hu]; exact .inr trivial⟩
        match cs, hcs with
        | [c], _ => exact ⟨c, [], rfl, by simp [Rel], rfl⟩
      | _ =>
        refine bads cs fun h' vs _ => ?_
        simp only [Shp, hu]

/-- an argument, as a whole -/
def ShpV (P : Program) (h : Heap) (n : Nat) (t : TypeId) (v : V) : Prop :=
  match P.underlying t with
  | some (.struct _) | some (.array _ _) => ∃ vs, v = .agg vs ∧ Shp P h n t vs
  | _ => Shp P h n t [v]
theorem ShpV.ext {h h' : Heap} (e : Ext h h') {n : Nat} {t : TypeId} {v : V} (H : ShpV P h n t v) : ShpV P h' n t v := by
  unfold ShpV at H ⊢
  split at H
  · obtain ⟨vs, q1, q2⟩ := H
    exact ⟨vs, q1, Shp.ext e _ _ _ q2⟩
  · obtain ⟨vs, q1, q2⟩ := H
    exact ⟨vs, q1, Shp.ext e _ _ _ q2⟩
  · exact Shp.ext e _ _ _ H

theorem lays_arg (hT : tilesB P = true) (hL : laidOutB P = true) {r : Reach} {b0 : Nat} {t : TypeId} {v : Value} {d : DataW H} {p : List MemPlace} (hlt : t < P.types.size) (hok : Value.okWide P W r b0 t v) (hd : DataW.Trod enc P W base sp held t v d p) {E : Env} {h : Heap} (s : Sim ⟨W, fun _ => none⟩ E h W) :
    ∃ n E' h' x, E.le E' ∧ Ext h h' ∧ Sim ⟨W, fun _ => none⟩ E' h' W ∧ Rel E' x v ∧ ShpV P h' n t x := by
  obtain ⟨fuel, hf⟩ := hd
  obtain ⟨E', h', vs, a1, a2, a3, a4, a5, a6⟩ := lays hT hL _ _ _ _ hlt hf E h s
  have agg : (∃ cs, v = .agg cs) → ∃ x, Rel E' x v ∧ x = .agg vs := by
    rintro ⟨cs, rfl⟩
    exact ⟨.agg vs, by simp only [Rel]; exact ⟨cs, rfl, a4⟩, rfl⟩
  have one : v.cells = #[v] → ∃ x, Rel E' x v ∧ vs = [x] := by
    intro hc
    rw [hc] at a4 a5
    match vs, a4, a5 with
    | [x], ⟨y, ys, e1, e2, e3⟩, _ =>
      simp only [List.cons.injEq] at e1
      exact ⟨x, e1.1 ▸ e2, rfl⟩
  refine ⟨fuel, E', h', ?_⟩
  unfold Value.okWide at hok
  cases hu : P.underlying t with
  | none =>
    rw [hu] at hok
    simp only [Cell.okWide, Cell.ok, hu] at hok
  | some u =>
    rw [hu] at hok
    unfold ShpV
    rw [hu]
    cases u <;> simp only at hok ⊢ <;> first
      | (obtain ⟨cs, hv, _⟩ := hok
         obtain ⟨x, q1, q2⟩ := agg ⟨cs, hv⟩
         exact ⟨x, a1, a2, a3, q1, vs, q2, a6⟩)
      | (have hc : v.cells = #[v] := by
           cases v <;> first
             | rfl
             | (simp only [Cell.okWide, Cell.ok, hu] at hok)
         obtain ⟨x, q1, q2⟩ := one hc
         exact ⟨x, a1, a2, a3, q1, q2 ▸ a6⟩)

def ShpL (P : Program) (h : Heap) : List TypeId → List V → Prop
  | [], [] => True
  | t :: ts, v :: vs => (∃ n, ShpV P h n t v) ∧ ShpL P h ts vs
  | _, _ => False
theorem ShpL.ext {h h' : Heap} (e : Ext h h') : ∀ {ts : List TypeId} {vs : List V}, ShpL P h ts vs → ShpL P h' ts vs
  | [], [], H => H
  | [], _ :: _, H => H.elim
  | _ :: _, [], H => H.elim
  | t :: ts, v :: vs, ⟨⟨n, H⟩, H'⟩ => ⟨⟨n, H.ext e⟩, ShpL.ext e H'⟩

theorem lays_args (hT : tilesB P = true) (hL : laidOutB P = true) {r : Reach} {b0 : Nat} : ∀ {ts : List TypeId} {vs : List Value} {ds : List (DataW H)} {p : List MemPlace}, (∀ t ∈ ts, t < P.types.size) → (∀ (j : Nat) t v, ts[j]? = some t → vs[j]? = some v → Value.okWide P W r b0 t v) →
    DataW.TrodAll enc P W base sp held ts vs ds p → ∀ {E : Env} {h : Heap}, Sim ⟨W, fun _ => none⟩ E h W → ∃ E' h' xs, E.le E' ∧ Ext h h' ∧ Sim ⟨W, fun _ => none⟩ E' h' W ∧ RelL E' xs vs ∧ ShpL P h' ts xs
  | [], [], ds, p, _, _, _, E, h, s => ⟨E, h, [], fun _ _ q => q, Ext.refl h, s, rfl, trivial⟩
  | [], _ :: _, ds, p, _, _, hd, E, h, s => by cases ds <;> exact hd.elim
  | _ :: _, [], ds, p, _, _, hd, E, h, s => by cases ds <;> exact hd.elim
  | _ :: _, _ :: _, [], p, _, _, hd, E, h, s => hd.elim
  | t :: ts, v :: vs, d :: ds, p, ht, hv, ⟨p1, p2, h1, h2, _⟩, E, h, s => by
    obtain ⟨n, E1, g1, x, a1, a2, a3, a4, a5⟩ := lays_arg hT hL (ht t (by simp)) (hv 0 t v rfl rfl) h1 s
    obtain ⟨E2, g2, xs, b1, b2, b3, b4, b5⟩ := lays_args hT hL (fun t q => ht t (by simp [q])) (fun j t v q1 q2 => hv (j + 1) t v (by simpa using q1) (by simpa using q2)) h2 a3
    exact ⟨E2, g2, x :: xs, a1.trans b1, a2.trans b2, b3, ⟨_, _, rfl, Rel.mono b1 _ _ a4, b4⟩, ⟨n, a5.ext b2⟩, b5⟩

/-- A CALL OF WHAT WAS HANDED IN: if the machine answers true, whatever the arguments of these types, the program does, and turns nothing that was there. -/
theorem call_true (hT : tilesB P = true) (hL : laidOutB P = true) {r : Reach} {b0 : Nat} {f : FuncId} {ts : List TypeId} {vs : List Value} {ds : List (DataW H)} {p : List MemPlace} (hts : ∀ t ∈ ts, t < P.types.size) (hv : ∀ (j : Nat) t v, ts[j]? = some t → vs[j]? = some v → Value.okWide P W r b0 t v)
    (hd : DataW.TrodAll enc P W base sp held ts vs ds p) (hW : Lay.ok W) (hN : NamesOk P) (hb : ∃ fn, P.funcs[f]? = some fn ∧ fn.body.isSome = true) (hc : ∀ (h : Heap) (xs : List V), ShpL P h ts xs → Ctr P f xs h fun y _ => y = .bool true) :
    Calls P f vs.toArray W fun e w' => e = .returned (.bool true) ∧ Below W.heap.size W w' := by
  obtain ⟨E, h, xs, _, _, a3, a4, a5⟩ := lays_args hT hL hts hv hd (sim_empty W hW)
  obtain ⟨y, h', hc', rfl⟩ := hc h xs a5
  refine (hc'.calls hN hb _ E W vs a4 a3).mono fun e w' q => ?_
  obtain ⟨E', x, rfl, _, q2, q3⟩ := q
  simp only [Rel] at q2
  subst q2
  exact ⟨rfl, q3.frame⟩
end
end Go.Proofs.YtjbiefneffiogaaGreat.Am

namespace Go.Proofs.YtjbiefneffiogaaGreat.Am
variable [Lay]
set_option linter.unusedSectionVars false
open Go Go.RowKit
set_option linter.unusedVariables false

/-! Opening what was handed in. -/
section
variable {P : Program} {h : Heap} {n : Nat} {t : TypeId}

theorem Shp.pos {vs : List V} (H : Shp P h n t vs) : ∃ m, n = m + 1 := by
  cases n with
  | zero => exact H.elim
  | succ m => exact ⟨m, rfl⟩
theorem Shp.bool {vs : List V} (H : Shp P h n t vs) (hu : P.underlying t = some .bool) : ∃ b, vs = [.bool b] := by
  obtain ⟨m, rfl⟩ := H.pos
  simpa only [Shp, hu] using H
theorem Shp.int {vs : List V} {k : IntKind} (H : Shp P h n t vs) (hu : P.underlying t = some (.int k)) : ∃ i, vs = [.int k i] ∧ (Lit.int k i).wf = true := by
  obtain ⟨m, rfl⟩ := H.pos
  simpa only [Shp, hu] using H
theorem Shp.str {vs : List V} (H : Shp P h n t vs) (hu : P.underlying t = some .string) : ∃ s : List UInt8, vs = [.str s] ∧ s.length ≤ maxLen := by
  obtain ⟨m, rfl⟩ := H.pos
  simpa only [Shp, hu] using H
theorem Shp.struct {vs : List V} {fs : Array Field} (H : Shp P h n t vs) (hu : P.underlying t = some (.struct fs)) : ∃ m, n = m + 1 ∧ vs.length = P.cellsOf t ∧ ∀ f ∈ fs.toList, Shp P h m f.type ((vs.drop f.offset).take (P.cellsOf f.type)) := by
  obtain ⟨m, rfl⟩ := H.pos
  refine ⟨m, rfl, ?_⟩
  simpa only [Shp, hu] using H

/-- a slice that was handed in -/
def Sld (h : Heap) (size : Nat) (v : V) (len : Nat) (Q : List V → Prop) : Prop :=
  v.one = true ∧ v.cells = [v] ∧ v.good = true ∧ lenSl v = some (.int .i64 len) ∧ len ≤ maxLen ∧ ∃ us, SlV h size v len us ∧ ∀ i, i < len → Q ((us.drop (i * size)).take size)

theorem Shp.slice {vs : List V} {e : TypeId} (H : Shp P h n t vs) (hu : P.underlying t = some (.slice e)) (hs : P.cellsOf e ≠ 0) : ∃ m v len, n = m + 1 ∧ vs = [v] ∧ Sld h (P.cellsOf e) v len (Shp P h m e) := by
  obtain ⟨m, rfl⟩ := H.pos
  simp only [Shp, hu] at H
  rcases H with rfl | ⟨b, i, j, k, rfl⟩ | q | ⟨b, len, cap, rfl, h1, h2, h3, h4, h5⟩
  · exact ⟨m, _, 0, rfl, rfl, rfl, rfl, rfl, rfl, Nat.zero_le _, [], ⟨by simp, rfl⟩, fun i hi => by omega⟩
  · exact ⟨m, _, 0, rfl, rfl, rfl, rfl, rfl, rfl, Nat.zero_le _, [], ⟨by simp, rfl⟩, fun i hi => by omega⟩
  · exact absurd q hs
  · refine ⟨m, _, len, rfl, rfl, rfl, rfl, rfl, rfl, by omega, ?_⟩
    obtain ⟨us, k1, k2, k3⟩ := h5
    exact ⟨us, ⟨k2, rfl, h4, us, k1, by omega, by simp⟩, k3⟩
end
end Go.Proofs.YtjbiefneffiogaaGreat.Am

namespace Go.Proofs.YtjbiefneffiogaaGreat.Am
variable [Lay]
set_option linter.unusedSectionVars false
open Go Go.RowKit Go.ChangeShapes Go.WideShapes
set_option linter.unusedVariables false

/-! A law that is told true: from the machine to the statement's own form. -/
section
variable {H : Type} {enc : TypeId × Value → H} {P : Program}

theorem below_all (hL : laidOutB P = true) {W W' : World} (hb : Below W.heap.size W W') : ∀ {ts : List TypeId} {vs : List Value} {ds : List (DataW H)} {ps : List MemPlace}, (ts.all fun t => P.readableRec t && decide (t < P.types.size)) = true →
    DataW.TrodAll enc P W 0 (fun _ => true) true ts vs ds ps → DataW.TrodAll enc P W' 0 (fun b => decide (b < W.heap.size)) true ts vs ds ps
  | [], [], [], _, _, h => h
  | [], _ :: _, _, _, _, h => by rename_i ds _; cases ds <;> exact h.elim
  | [], [], _ :: _, _, _, h => h.elim
  | _ :: _, [], _, _, _, h => by rename_i ds _; cases ds <;> exact h.elim
  | _ :: _, _ :: _, [], _, _, h => h.elim
  | t :: ts, v :: vs, d :: ds, ps, hr, h => by
    have hlt := h.lt
    obtain ⟨p, q, h1, h2, rfl⟩ := h
    simp only [List.all_cons, Bool.and_eq_true, decide_eq_true_eq] at hr
    exact ⟨p, q, Below.trod hL hr.1.1 hr.1.2 h1 hb (fun x hx => hlt x (by simp [hx])), below_all hL hb hr.2 h2, rfl⟩

theorem trodAll_len {W : World} {base : Nat} {sp : Nat → Bool} {held : Bool} : ∀ {ts : List TypeId} {vs : List Value} {ds : List (DataW H)} {ps : List MemPlace}, DataW.TrodAll enc P W base sp held ts vs ds ps → ds.length = ts.length
  | [], [], [], _, _ => rfl
  | [], _ :: _, ds, _, h => by cases ds <;> exact h.elim
  | [], [], _ :: _, _, h => h.elim
  | _ :: _, [], ds, _, h => by cases ds <;> exact h.elim
  | _ :: _, _ :: _, [], _, h => h.elim
  | t :: ts, v :: vs, d :: ds, ps, h => by
    obtain ⟨p, q, h1, h2, rfl⟩ := h
    simp [trodAll_len h2]

theorem law_true (hT : tilesB P = true) (hL : laidOutB P = true) {f : FuncId} {fn : Func} {s : ChangeSpec} {tb : TypeId} (hts : (fn.params.toList.all fun t => P.readableRec t && decide (t < P.types.size)) = true) (hvars : s.vars = []) (hrt : fn.resultTypes = #[tb]) (hub : P.underlying tb = some .bool)
    (hspec : ∀ ds : List (DataW H), ds.length = fn.params.size → s.fn H (ds ++ []) = { results := [.lit (.bool true)], args := ds })
    (hc : ∀ (h : Heap) (xs : List V), ShpL P h fn.params.toList xs → Ctr P f xs h fun y _ => y = .bool true)
    {W : World} {base : Nat} {args : Array Value} {ds gs : List (DataW H)} {before : List MemPlace} (hlay : Lay.ok W) (hN : NamesOk P) (hb : ∃ fn, P.funcs[f]? = some fn ∧ fn.body.isSome = true)
    (hval : ∀ (j : Nat) t v, fn.params[j]? = some t → args[j]? = some v → Value.okWide P W .any base t v) (hW : DataW.Whole enc P fn.params.toList s.vars false W args.toList ds gs before) :
    Calls P f args W fun e W' => ∃ v, e = .returned v ∧ s.post enc P fn false true false false W args v W' := by
  have hW' := hW
  obtain ⟨p, q, hA, hV, rfl, hfz, hnd⟩ := hW
  rw [hvars] at hV
  obtain ⟨rfl, rfl⟩ := trodVars_none hV
  have hlen : ds.length = fn.params.size := by rw [trodAll_len hA]; simp
  have hw := call_true hT hL (b0 := base) (r := .any) (fun t ht => by
    have := List.all_eq_true.1 hts t ht
    simp only [Bool.and_eq_true, decide_eq_true_eq] at this
    exact this.2) (fun j t v h1 h2 => hval j t v (by simpa using h1) (by simpa using h2)) hA hlay hN hb hc
  simp only [Array.toArray_toList] at hw
  refine hw.mono fun e W' ⟨he, bel⟩ => ?_
  subst he
  refine ⟨_, rfl, ds, [], p ++ [], [], p, [], hW', ?_, ?_, ?_, bel.frame _, fun h => by cases h⟩
  · rw [hspec ds hlen, hrt]
    exact trodAll_mk1 (shut_bool hub _)
  · rw [hspec ds hlen]
    exact below_all hL bel hts hA
  · rw [hspec ds hlen, hvars]
    rfl
end
end Go.Proofs.YtjbiefneffiogaaGreat.Am

namespace Go.Proofs.YtjbiefneffiogaaGreat.Am
variable [Lay]
set_option linter.unusedSectionVars false
set_option linter.unusedVariables false
open Go Go.RowKit

/-! A row that lists variables: the world's shape and what is laid, both. -/
theorem shp_none {P : Program} {h : Heap} {xs : List V} (hs : ShpL P h [] xs) : xs = [] := by
  match xs, hs with
  | [], _ => rfl
end Go.Proofs.YtjbiefneffiogaaGreat.Am

namespace Go.Proofs.YtjbiefneffiogaaGreat.Am
variable [Lay]
set_option linter.unusedSectionVars false
set_option linter.unusedVariables false
open Go Go.RowKit Go.Maps Go.Sort Go.Shelf

/-! slices.Sorted(maps.Keys(m)), of ints: by the library's contract. -/
def insZ (x : Int) : List Int → List Int
  | [] => [x]
  | y :: l => bif Int.leB x y then x :: y :: l else y :: insZ x l
def sortZ : List Int → List Int
  | [] => []
  | x :: l => insZ x (sortZ l)
theorem insZ_perm (x : Int) : ∀ l, (insZ x l).Perm (x :: l)
  | [] => List.Perm.refl _
  | y :: l => by
    simp only [insZ]
    cases Int.leB x y with
    | true => exact List.Perm.refl _
    | false => exact ((insZ_perm x l).cons y).trans (List.Perm.swap x y l)
theorem sortZ_perm : ∀ l, (sortZ l).Perm l
  | [] => List.Perm.refl _
  | x :: l => (insZ_perm x _).trans ((sortZ_perm l).cons x)
theorem insZ_sorted (x : Int) : ∀ l : List Int, l.Pairwise (· ≤ ·) → (insZ x l).Pairwise (· ≤ ·)
  | [], _ => List.pairwise_singleton _ _
  | y :: l, h => by
    simp only [insZ, leB_dec]
    by_cases hxy : x ≤ y
    · rw [decide_eq_true hxy]
      refine List.pairwise_cons.2 ⟨fun z hz => ?_, h⟩
      rcases List.mem_cons.1 hz with rfl | hz
      · exact hxy
      · exact Int.le_trans hxy ((List.pairwise_cons.1 h).1 z hz)
    · rw [decide_eq_false hxy]
      refine List.pairwise_cons.2 ⟨fun z hz => ?_, insZ_sorted x l (List.pairwise_cons.1 h).2⟩
      rcases List.mem_cons.1 ((insZ_perm x l).mem_iff.1 hz) with rfl | hz
      · omega
      · exact (List.pairwise_cons.1 h).1 z hz
theorem sortZ_sorted : ∀ l, (sortZ l).Pairwise (· ≤ ·)
  | [] => .nil
  | x :: l => insZ_sorted x _ (sortZ_sorted l)
theorem sortZ_eq {l m : List Int} (h : m.Perm l) : m.mergeSort (fun x y => decide (x ≤ y)) = sortZ l := by
  have hp : (m.mergeSort (fun x y => decide (x ≤ y))).Perm (sortZ l) := ((List.mergeSort_perm m _).trans h).trans (sortZ_perm l).symm
  have hs : (m.mergeSort (fun x y => decide (x ≤ y))).Pairwise (· ≤ ·) := by
    have := List.pairwise_mergeSort (le := fun x y : Int => decide (x ≤ y)) (fun a b c h1 h2 => by simp only [decide_eq_true_eq] at *; omega) (fun a b => by simp only [Bool.or_eq_true, decide_eq_true_eq]; omega) m
    exact this.imp (fun h => by simpa using h)
  exact hp.eq_of_pairwise (fun a b _ _ h1 h2 => Int.le_antisymm h1 h2) hs (sortZ_sorted l)

def keysZ : List ME → Option (List Int)
  | [] => some []
  | m :: ms => match m.k with
    | .int .i64 n => (match keysZ ms with
      | some l => some (n :: l)
      | none => none)
    | _ => none
def memZ (x : Int) : List Int → Bool
  | [] => false
  | y :: l => Int.eqB x y || memZ x l
def nodupZ : List Int → Bool
  | [] => true
  | x :: l => !memZ x l && nodupZ l
def bornsB (clock : Nat) : Nat → List ME → Bool
  | _, [] => true
  | lo, m :: ms => Nat.ble lo m.born && Nat.blt m.born clock && bornsB clock (m.born + 1) ms
def wfZ : List Int → Bool
  | [] => true
  | x :: l => (Lit.int .i64 x).wf && wfZ l
def intsV (l : List Int) : List V := l.map (V.int .i64)

noncomputable def sortedOf (g : FuncId) (bb : Pa) (h : Heap) : OR :=
  match h.get bb with
  | .cells n cs 0 _ => bif Nat.blt 0 n then (match T.get .bad (pa 0) cs with
    | .map b => (match h.get b with
      | .mp es clock => (match keysZ es with
        | some ks => bif nodupZ ks && bornsB clock 0 es && wfZ ks && Nat.ble es.length 1000000 then (match sortZ ks with
            | [] => .val .nilslice h
            | x :: l => (match newGrow h (intsV (x :: l)) 1 false with
              | some h' => .val (.gslice (pa h.next) 0 (x :: l).length 0) h'
              | none => .fail)) else .fail
        | none => .fail)
      | _ => .fail)
    | _ => .fail) else .fail
  | _ => .fail
noncomputable def sortedKeysC (g : FuncId) : PrimC :=
  ⟨fun args h => match args with
    | [.func f [.ptr bb 0]] => bif Nat.beq f g then sortedOf g bb h else .fail
    | _ => .fail⟩

theorem keysZ_len : ∀ {es : List ME} {ks : List Int}, keysZ es = some ks → ks.length = es.length
  | [], ks, h => by simp only [keysZ, Option.some.injEq] at h; subst h; rfl
  | m :: ms, ks, h => by
    unfold keysZ at h
    split at h
    · cases hq : keysZ ms with
      | none => rw [hq] at h; cases h
      | some l =>
        rw [hq] at h
        simp only [Option.some.injEq] at h
        subst h
        simp [keysZ_len hq]
    · cases h
theorem keysZ_rel {E : Env} : ∀ {es : List ME} {ks : List Int} {l : List MapEntry}, keysZ es = some ks → MRel E es l → l.map (·.key) = ks.map (Value.int .i64) ∧ l.map (·.born) = es.map (·.born)
  | [], ks, l, h, hr => by
    simp only [keysZ, Option.some.injEq] at h
    simp only [MRel] at hr
    subst h hr
    exact ⟨rfl, rfl⟩
  | m :: ms, ks, l, h, hr => by
    simp only [MRel] at hr
    obtain ⟨e, es', rfl, h1, h2, h3, h4⟩ := hr
    unfold keysZ at h
    split at h
    · rename_i n hk
      cases hq : keysZ ms with
      | none => rw [hq] at h; cases h
      | some l =>
        rw [hq] at h
        simp only [Option.some.injEq] at h
        subst h
        obtain ⟨g1, g2⟩ := keysZ_rel hq h4
        rw [hk] at h1
        simp only [Rel] at h1
        simp only [List.map_cons, g1, g2, h1, h3, and_self]
    · cases h
theorem memZ_mem {x : Int} : ∀ {l : List Int}, memZ x l = false → x ∉ l
  | [], _ => by simp
  | y :: l, h => by
    simp only [memZ, Bool.or_eq_false_iff] at h
    have h1 : ¬ x = y := by
      intro q
      have := h.1
      rw [eqB_dec, decide_eq_false_iff_not] at this
      exact this q
    rw [List.mem_cons]
    rintro (q | q)
    · exact h1 q
    · exact memZ_mem h.2 q
theorem nodupZ_nodup : ∀ {l : List Int}, nodupZ l = true → l.Nodup
  | [], _ => List.nodup_nil
  | x :: l, h => by
    simp only [nodupZ, Bool.and_eq_true, Bool.not_eq_true'] at h
    exact List.nodup_cons.2 ⟨memZ_mem h.1, nodupZ_nodup h.2⟩
theorem bornsB_ok {clock : Nat} : ∀ {lo : Nat} {es : List ME}, bornsB clock lo es = true → (∀ n ∈ es.map (·.born), lo ≤ n ∧ n < clock) ∧ (es.map (·.born)).Nodup
  | lo, [], _ => ⟨by simp, by simp⟩
  | lo, m :: ms, h => by
    simp only [bornsB, Bool.and_eq_true, Nat.ble_eq, Nat.blt_eq] at h
    obtain ⟨g1, g2⟩ := bornsB_ok h.2
    refine ⟨fun n hn => ?_, ?_⟩
    · rw [List.map_cons] at hn
      rcases List.mem_cons.1 hn with rfl | hn
      · exact h.1
      · have := g1 n hn
        omega
    · rw [List.map_cons]
      refine List.nodup_cons.2 ⟨fun q => ?_, g2⟩
      have := g1 _ q
      omega
theorem wfZ_mem : ∀ {l : List Int}, wfZ l = true → ∀ x ∈ l, (Lit.int .i64 x).wf = true
  | [], _, x, hx => by cases hx
  | y :: l, h, x, hx => by
    simp only [wfZ, Bool.and_eq_true] at h
    rcases List.mem_cons.1 hx with rfl | hx
    · exact h.1
    · exact wfZ_mem h.2 x hx
theorem nodup_map_int {l : List Int} (h : l.Nodup) : (l.map (Value.int .i64)).Nodup := by
  induction l with
  | nil => exact List.nodup_nil
  | cons x l ih =>
    obtain ⟨h1, h2⟩ := List.nodup_cons.1 h
    rw [List.map_cons]
    refine List.nodup_cons.2 ⟨fun q => ?_, ih h2⟩
    obtain ⟨y, hy, e⟩ := List.mem_map.1 q
    cases e
    exact h1 hy

/-- a call of slices.Sorted with what maps.Keys has made: what the library's contract says of it -/
def SortedKeys (P : Program) (f g : FuncId) (kt : TypeId) : Prop :=
  ∀ (Bm b nn : Nat) (D0 : DataW Unit) (R : Value → Option (DataW Unit × List MemPlace)) (w : World), Bm < w.heap.size → w.cell? ⟨Bm, 0, none⟩ = some (.map (some b)) → w.ownsMap P kt R b nn D0 → Maps.size D0 ≤ maxLen → Maps.size D0 * 8 ≤ 140737488355328 →
    Calls P f #[.func (.func g) #[] #[.pointer (some ⟨Bm, 0, none⟩)]] w fun e w' => ∃ (v : Value) (ss : List Int), e = .returned v ∧ ss.Perm (intKeys D0) ∧
      w'.ownsRow w.heap.size kt 1 v ss.length ((ss.mergeSort (fun x y => decide (x ≤ y))).map encZ) ∧ (v = .slice none 0 0 ↔ ss = []) ∧ Below w.heap.size w w'

theorem intsV_rel (E : Env) : ∀ l : List Int, RelL E (intsV l) (l.map encZ)
  | [] => rfl
  | x :: l => by
    simp only [intsV, List.map_cons, RelL]
    exact ⟨_, _, rfl, by simp only [Rel], intsV_rel E l⟩

theorem own_lt {w0 : Fr} {E : Env} {h : Heap} {w : World} (s : Sim w0 E h w) {b : Pa} {q : Pl} (ho : (h.get b).own = true) (hq : E b = some q) : q.blk < w.heap.size := by
  have hb := s.at hq
  cases hg : h.get b with
  | dead => rw [hg] at ho; cases ho
  | view n cs => rw [hg] at ho; cases ho
  | cells n cs esz st => rw [hg] at hb; obtain ⟨_, q', c, el, fz, e, _, hh, _⟩ := hb; rw [e] at hq; cases hq; exact (Array.getElem?_eq_some_iff.1 hh).1
  | iter st pos => rw [hg] at hb; obtain ⟨q', e, _, _, hh⟩ := hb; rw [e] at hq; cases hq; exact (Array.getElem?_eq_some_iff.1 hh).1
  | mp es clock => rw [hg] at hb; obtain ⟨q', a, e, _, hh, _⟩ := hb; rw [e] at hq; cases hq; exact (Array.getElem?_eq_some_iff.1 hh).1
theorem sortedKeys_ok {P : Program} {f g : FuncId} {kt : TypeId} (hkt : P.underlying kt = some (.int .i64)) (C : SortedKeys P f g kt) {args : List V} {h h' : Heap} {v : V} (he : (sortedKeysC g).run args h = .val v h')
    (w0 : Fr) (E : Env) (w : World) (xs : List Value) (hx : RelL E args xs) (s : Sim w0 E h w) :
    Calls P f xs.toArray w fun e w' => ∃ E' x, e = .returned x ∧ E.le E' ∧ Rel E' v x ∧ Sim w0 E' h' w' := by
  match args, he, hx with
  | [.func f' [.ptr bb 0]], he, hx =>
    simp only [sortedKeysC] at he
    cases hfg : Nat.beq f' g with
    | false => rw [hfg] at he; cases he
    | true =>
      rw [hfg] at he
      simp only [cond_true] at he
      have hfg' : f' = g := Nat.eq_of_beq_eq_true hfg
      subst hfg'
      simp only [RelL] at hx
      obtain ⟨y, _, rfl, hy, rfl⟩ := hx
      simp only [Rel] at hy
      obtain ⟨a, rfl, q, _, ha, hq, rfl⟩ := hy
      obtain ⟨p, hp, rfl⟩ := hq
      have ha' : a = #[.pointer (some ⟨p.blk, p.base + 0, none⟩)] := by
        rw [← Array.toList_inj, ha]
      subst ha'
      unfold sortedOf at he
      split at he
      · rename_i n cs st hbb
        have hbase := s.base bb p n cs st hbb hp
        have hblk := s.at hp
        rw [hbb] at hblk
        obtain ⟨_, p', c, el, fz, e1, _, hheap, _, _, _, hcells⟩ := hblk
        rw [hp] at e1; cases e1
        cases hn : Nat.blt 0 n with
        | false => rw [hn] at he; cases he
        | true =>
          rw [hn] at he
          simp only [cond_true] at he
          rw [Nat.blt_eq] at hn
          split at he
          · rename_i b hmap
            have hc0 : 0 < c.size := by have := hcells.1; omega
            have hrel := hcells.2 0 c[0] hn (by rw [hbase]; exact Array.getElem?_eq_getElem hc0)
            rw [hmap] at hrel
            simp only [Rel] at hrel
            obtain ⟨pb, hpb, hcell⟩ := hrel
            split at he
            · rename_i es clock hes
              have hmb := s.at hpb
              rw [hes] at hmb
              obtain ⟨pb', am, e2, _, hmheap, hmr⟩ := hmb
              rw [hpb] at e2; cases e2
              cases hks : keysZ es with
              | none => rw [hks] at he; cases he
              | some ks =>
                rw [hks] at he
                simp only at he
                cases hgood : (nodupZ ks && bornsB clock 0 es && wfZ ks && Nat.ble es.length 1000000) with
                | false => rw [hgood] at he; cases he
                | true =>
                  rw [hgood] at he
                  simp only [cond_true] at he
                  simp only [Bool.and_eq_true, Nat.ble_eq] at hgood
                  obtain ⟨⟨⟨g1, g2⟩, g3⟩, g4⟩ := hgood
                  obtain ⟨k1, k2⟩ := keysZ_rel hks hmr
                  have hklen := keysZ_len hks
                  have hasize : am.size = ks.length := by
                    have := congrArg List.length k1
                    simpa using this
                  obtain ⟨b1, b2⟩ := bornsB_ok g2
                  have hmax : maxLen = 9223372036854775807 := by decide
                  have hstamp : MapKept.Stamped am clock := by
                    refine ⟨fun x hx => ?_, by rw [k2]; exact b2, by rw [k1]; exact nodup_map_int (nodupZ_nodup g1)⟩
                    have : x.born ∈ es.map (·.born) := by rw [← k2]; exact List.mem_map_of_mem hx
                    exact (b1 _ this).2
                  have hkeyAt : ∀ x ∈ am.toList, ∃ n ∈ ks, x.key = .int .i64 n := by
                    intro x hx
                    have : x.key ∈ am.toList.map (·.key) := List.mem_map_of_mem hx
                    rw [k1] at this
                    obtain ⟨n, hn, e⟩ := List.mem_map.1 this
                    exact ⟨n, hn, e.symm⟩
                  have hrd : ∀ x ∈ am.toList, ∃ n, x.key = .int .i64 n ∧ WideElems.rd P kt (fun _ => some ((.nil : DataW Unit), [])) x = some (.int .i64 n, .nil) := by
                    intro x hx
                    obtain ⟨n, hn, e⟩ := hkeyAt x hx
                    refine ⟨n, e, ?_⟩
                    unfold WideElems.rd
                    rw [e, Maps.keyOf_int_mk hkt (wfZ_mem g3 n hn)]
                    rfl
                  have hfit : WideElems.Fit P kt (fun _ => some ((.nil : DataW Unit), [])) am clock := ⟨by rw [hasize, hklen, hmax]; omega, hstamp, fun x hx => by obtain ⟨n, _, e⟩ := hrd x hx; exact ⟨_, e⟩⟩
                  have hown : w.ownsMap P kt (fun _ => some ((.nil : DataW Unit), [])) pb.blk am.size (.map ((am.toList.map (WideElems.rg P kt (fun _ => some ((.nil : DataW Unit), [])))).foldr DataW.insert [])) := ⟨am, clock, hmheap, hfit, Nat.le_refl _, rfl⟩
                  have hkeys : (am.toList.map (WideElems.rg P kt (fun _ => some ((.nil : DataW Unit), [])))).map (fun p => intOf p.1) = ks := by
                    have hz : ∀ (l : List MapEntry) (zs : List Int), (∀ x ∈ l, ∃ n, x.key = .int .i64 n ∧ WideElems.rd P kt (fun _ => some ((.nil : DataW Unit), [])) x = some (.int .i64 n, .nil)) → l.map (·.key) = zs.map (Value.int .i64) → (l.map (WideElems.rg P kt (fun _ => some ((.nil : DataW Unit), [])))).map (fun p => intOf p.1) = zs := by
                      intro l
                      induction l with
                      | nil =>
                        intro zs _ e
                        cases zs with
                        | nil => rfl
                        | cons z zs => simp at e
                      | cons x l ih =>
                        intro zs hall e
                        cases zs with
                        | nil => simp at e
                        | cons z zs =>
                          simp only [List.map_cons, List.cons.injEq] at e
                          obtain ⟨n, e1, e2⟩ := hall x (List.mem_cons_self ..)
                          have hzn : z = n := by
                            have := e.1.symm.trans e1
                            injection this
                          rw [List.map_cons, List.map_cons, ih zs (fun y hy => hall y (List.mem_cons_of_mem _ hy)) e.2]
                          unfold WideElems.rg
                          rw [e2, hzn]
                          rfl
                    exact hz am.toList ks hrd k1
                  have hD : (intKeys (.map ((am.toList.map (WideElems.rg P kt (fun _ => some ((.nil : DataW Unit), [])))).foldr DataW.insert []) : DataW Unit)).Perm ks := by
                    have := (WideShapes.sorted_perm (am.toList.map (WideElems.rg P kt (fun _ => some ((.nil : DataW Unit), []))))).map (fun p => intOf p.1)
                    rw [hkeys] at this
                    exact this
                  have hsz : Maps.size (.map ((am.toList.map (WideElems.rg P kt (fun _ => some ((.nil : DataW Unit), [])))).foldr DataW.insert []) : DataW Unit) = ks.length := by
                    rw [Maps.size_eq, length_sorted, List.length_map, Array.length_toList, hasize]
                  have hlt := (Array.getElem?_eq_some_iff.1 hheap).1
                  have hcellw : w.cell? ⟨p.blk, 0, none⟩ = some (.map (some pb.blk)) := by
                    simp only [World.cell?, hheap]
                    rw [← hcell]
                    exact Array.getElem?_eq_getElem hc0
                  have call := C p.blk pb.blk am.size _ _ w hlt hcellw hown (by rw [hsz, hklen, hmax]; omega) (by rw [hsz, hklen]; omega)
                  rw [show p.base + 0 = 0 from by rw [hbase]]
                  refine call.mono fun e w' q => ?_
                  obtain ⟨v0, ss, rfl, q1, q2, q3, q4⟩ := q
                  have hperm : ss.Perm ks := q1.trans hD
                  rw [sortZ_eq hperm] at q2
                  have hslen : ss.length = (sortZ ks).length := by rw [hperm.length_eq, (sortZ_perm ks).length_eq]
                  split at he
                  · rename_i hs0
                    have : ss = [] := by
                      rw [hs0] at hslen
                      exact List.eq_nil_of_length_eq_zero hslen
                    cases he
                    rw [q3.2 this]
                    exact ⟨E, _, rfl, fun _ _ q => q, by simp only [Rel], s.below q4⟩
                  · rename_i x l hs1
                    rw [hs1] at hslen q2
                    cases hgr : newGrow h (intsV (x :: l)) 1 false with
                    | none => rw [hgr] at he; cases he
                    | some h1 =>
                      rw [hgr] at he
                      simp only [OR.val.injEq] at he
                      obtain ⟨rfl, rfl⟩ := he
                      obtain ⟨r1, r2⟩ := q2
                      rcases r2 with ⟨_, r2⟩ | ⟨gb, cap, cur, rfl, r2, r3, r4, r5, r6, r7⟩
                      · rw [hslen] at r2; cases r2
                      · unfold newGrow at hgr
                        obtain ⟨hc, hgr⟩ := cond_some hgr
                        simp only [Bool.and_eq_true, Nat.ble_eq] at hc
                        simp only [Option.some.injEq] at hgr
                        subst hgr
                        have hput : E.put (pa h.next) ⟨gb, 0, cap⟩ (pa h.next) = some ⟨gb, 0, cap⟩ := by unfold Env.put; rw [if_pos rfl]
                        have hle : E.le (E.put (pa h.next) ⟨gb, 0, cap⟩) := Env.le_put (s.fresh h.next (Nat.le_refl _))
                        refine ⟨_, _, rfl, hle, ?_, s.add (p := ⟨gb, 0, cap⟩) q4.size (fun j hj _ => q4.block j hj) (Nat.le_trans s.frame.size r2) (fun b' q' ho' hq' he' => ?_) q4.os q4.tape q4.output (fun _ _ _ e => by injection e with _ _ e3; omega) ?_⟩
                        · simp only [Rel]
                          exact ⟨_, hput, by simp only [Nat.zero_add]; omega, by simp only [Nat.add_zero, Nat.sub_zero, hslen]⟩
                        · have := own_lt s ho' hq'
                          simp only at he'
                          omega
                        · have hcs := fresh_cells (RelL.mono hle _ _ (intsV_rel E (x :: l))) hc.1 (cur.toList.drop (ss.length * 1)).toArray
                          have hcur : ((x :: l).map encZ).toArray ++ (cur.toList.drop (ss.length * 1)).toArray = cur := by
                            rw [← r7, ← Array.toList_inj]
                            simp
                          rw [hcur] at hcs
                          exact ⟨hc.1, ⟨gb, 0, cap⟩, cur, kt, (0, 0), hput, Nat.le_trans s.frame.size r2, r3, .inr (Nat.le_refl _), fun _ => rfl, fun _ => by simp only; omega, hcs⟩
            · cases he
          · cases he
      · cases he
end Go.Proofs.YtjbiefneffiogaaGreat.Am

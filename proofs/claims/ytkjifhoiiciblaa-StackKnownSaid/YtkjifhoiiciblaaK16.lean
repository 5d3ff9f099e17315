/- The abstract machine, part K16 (a verified interpreter of the model's code: plain definitions and lemmas, no condition). -/
import Derived.Test.YtkjifhoiiciblaaK15
namespace Go.Proofs.Ytkjifhoiiciblaa.Am
open Go Go.RowKit

section
variable {P : Program}

/-- no function of the program is the one that the model takes by itself -/
def NamesOk (P : Program) : Prop := ∀ (f : FuncId) (fn : Func), P.funcs[f]? = some fn → (fn.name == "runtime.NumGoroutine") = false

theorem run_callFunc (hN : NamesOk P) {f : FuncId} {fn : Func} (hf : P.funcs[f]? = some fn) (hb : fn.body.isSome = true) (args : Array Value) (w : World) : (callFunc f args).run P w = .ok (.enter f args) w := by
  have hb' : fn.body.isNone = false := by cases h : fn.body with | none => rw [h] at hb; cases hb | some c => rfl
  simp only [callFunc, Sem.run_bind, run_program, Result.andThen_ok, hf]
  rw [if_neg (by rw [hN f fn hf]; simp)]
  simp [hb']

theorem mapToList {α β : Type} (f : α → β) (a : Array α) : a.map f = (a.toList.map f).toArray := by
  apply Array.ext'
  simp

theorem parts_array (ρ : Operand → Value) (ps : Array (Nat × Operand)) : (ps.map fun (i, x) => (i, ρ x)) = (ps.toList.map fun (i, x) => (i, ρ x)).toArray := by
  apply Array.ext'
  simp

/-- what a function value's call needs: that the function has a body -/
def CallBody (P : Program) (call : CallF) : Prop := ∀ f args h v h', call f args h = .val v h' → ∃ fn, P.funcs[f]? = some fn ∧ fn.body.isSome = true

set_option maxHeartbeats 2000000 in
theorem cop_sound {w0 : World} {E : Env} {h h' : Heap} {w : World} {call : CallF} (hN : NamesOk P) (hcall : CallOk P w0 call) (hbody : CallBody P call) {o : Oper} {nt : Nat} {r : Regs} {a : Act} {v : V}
    (he : (cop P o).run call r h = .val v h') (k : RegRel E nt r a) (s : Sim w0 E h w) {K : Act → World → Prop} {Q : Exit → Act → World → Prop}
    (hK : ∀ E' x w', E.le E' → Rel E' v x → Sim w0 E' h' w' → K (a.put o.dst x) w') : o.wp P a w K Q := by
  obtain ⟨dst, op, type, pos, after, guard⟩ := o
  cases op <;> simp only [cop] at he <;> try (simp [OpC.none] at he; done)
  case move x =>
    simp only [OR.val.injEq] at he; obtain ⟨rfl, rfl⟩ := he
    exact wp_gives (m := pure (a.eval x)) rfl (Gives.plain s rfl (evC_sound k x)) hK
  case assign x =>
    simp only [OR.val.injEq] at he; obtain ⟨rfl, rfl⟩ := he
    exact wp_gives (m := pure (a.eval x)) rfl (Gives.plain s rfl (evC_sound k x)) hK
  case pick c x y =>
    have hc := evC_sound k c
    generalize (evC c).run r = vc at he hc
    cases vc <;> simp only at he <;> try (cases he; done)
    rename_i t
    simp only [OR.val.injEq] at he; obtain ⟨rfl, rfl⟩ := he
    simp only [Rel] at hc
    refine wp_gives (m := do pure (if ← asBool (a.eval c) then a.eval x else a.eval y)) (by simp only [execOp, bind_assoc, pure_bind]) (Gives.plain (Z := if t then a.eval x else a.eval y) s ?_ ?_) hK
    · rw [hc]; rfl
    · cases t
      · exact evC_sound k y
      · exact evC_sound k x
  case alloc t =>
    cases ht : tiOf P t with
    | none => rw [ht] at he; simp [OpC.none] at he
    | some ti =>
      rw [ht] at he
      simp only at he
      cases hz : ti.zero with
      | none => rw [hz] at he; simp [OpC.none] at he
      | some z =>
        rw [hz] at he
        simp only at he
        cases hn : newCells h z.cells with
        | none => rw [hn] at he; cases he
        | some h1 =>
          rw [hn] at he
          simp only [orHeap, OR.val.injEq] at he; obtain ⟨rfl, rfl⟩ := he
          obtain ⟨x, hx, hxr, _⟩ := zero_cells (P := P) (E := E) ht hz w
          obtain ⟨E', g1, g2, g3, g4⟩ := newCells_sound (P := P) s hxr hn t
          have g3' : (newRow t x.cells).run P w = .ok ⟨w.heap.size, 0, none⟩ { w with heap := w.heap.push (.cells x.cells t) } := by simpa using g3
          have g4' : Sim w0 E' h1 { w with heap := w.heap.push (.cells x.cells t) } := by simpa using g4
          exact wp_gives (m := Instr.alloc t true (.tuple #[])) rfl ⟨.pointer (some ⟨w.heap.size, 0, none⟩), _, E', by simp only [Instr.alloc, Sem.run_bind, hx, Result.andThen_ok, newVar, g3', Sem.run_pure], g1, by simp only [Rel]; exact ⟨_, g2, by simp⟩, g4'⟩ hK
  case box t x =>
    obtain ⟨hg, he⟩ := cond_val he
    cases hn : newCells h ((evC x).run r).cells with
    | none => rw [hn] at he; cases he
    | some h1 =>
      rw [hn] at he
      simp only [orHeap, OR.val.injEq] at he; obtain ⟨rfl, rfl⟩ := he
      have hl := (evC_sound k x).cells (fun e => by rw [e] at hg; cases hg)
      obtain ⟨E', g1, g2, g3, g4⟩ := newCells_sound (P := P) s hl hn t
      have g3' : (newRow t (a.eval x).cells).run P w = .ok ⟨w.heap.size, 0, none⟩ { w with heap := w.heap.push (.cells (a.eval x).cells t) } := by simpa using g3
      have g4' : Sim w0 E' h1 { w with heap := w.heap.push (.cells (a.eval x).cells t) } := by simpa using g4
      exact wp_gives (m := Instr.box t (a.eval x)) rfl ⟨.pointer (some ⟨w.heap.size, 0, none⟩), _, E', by simp only [Instr.box, Sem.run_bind, newVar, g3', Result.andThen_ok, Sem.run_pure], g1, by simp only [Rel]; exact ⟨_, g2, by simp⟩, g4'⟩ hK
  case build t ps =>
    obtain ⟨he2, rfl⟩ := OR.of_val he
    clear he
    obtain ⟨Z, hZ, hR⟩ := buildC_sound (P := P) (partsC_sound k ps.toList) he2 w
    refine wp_gives (m := Instr.build t (ps.map fun (i, x) => (i, a.eval x))) rfl (Gives.plain (Z := Z) s ?_ hR) hK
    rw [parts_array]; exact hZ
  case buildSlice t n ps =>
    refine wp_gives (m := Instr.buildSlice t n (ps.map fun (i, x) => (i, a.eval x))) rfl ?_ hK
    rw [parts_array]
    exact buildSliceC_sound s (partsC_sound k ps.toList) he
  case load t x =>
    obtain ⟨he2, rfl⟩ := OR.of_val he
    clear he
    obtain ⟨Y, hY, hR, _⟩ := loadC_sound (P := P) s (evC_sound k x) he2
    exact wp_gives (m := Instr.loadAt t (a.eval x)) rfl (Gives.plain s hY hR) hK
  case store t x y =>
    cases hst : (storeC P t).run h ((evC x).run r) ((evC y).run r) with
    | none => rw [hst] at he; cases he
    | some h1 =>
      rw [hst] at he
      simp only [orHeap, OR.val.injEq] at he; obtain ⟨rfl, rfl⟩ := he
      obtain ⟨w', hrun, hs'⟩ := storeC_sound (P := P) s (evC_sound k x) (evC_sound k y) hst
      unfold Oper.wp
      have : execOp a.eval ⟨dst, .store t x y, type, pos, after, guard⟩ = (do Instr.storeAt t (a.eval x) (a.eval y); pure .skip) := rfl
      rw [this, Sem.run_bind, hrun]
      exact hK E undef w' (Env.le.refl E) (by simp [Rel]) hs'
  case nilCheck x =>
    obtain ⟨he2, rfl⟩ := OR.of_val he
    clear he
    have hx := evC_sound k x
    generalize (evC x).run r = vx at he2 hx
    have hgo : ∀ X, Rel E vx X → (match X with
        | .pointer none | .nilIface | .nilFunc => (runtimePanic .nilDeref : Sem Next)
        | .func (.method name) first captured =>
          match (first[0]? : Option Value) with
          | some .nilIface => runtimePanic .nilDeref
          | some (.iface t w) => do
            if (← nilAhead ((← program).types.size + Made.depth) t w name) != some false then
              unsupported (.noEntry "op/nilCheck.the method's receiver behind this interface value is a nil pointer, or cannot be seen to be none, and the arguments act or may panic (ledger 612)")
            pure (.value (.func (.method name) first captured))
          | _ => pure (.value (.func (.method name) first captured))
        | x => pure (.value x)) = pure (.value X) ∧ v = vx := by
      intro X hX
      cases vx <;> simp only [nilCheckV] at he2 <;> try (cases he2; done)
      all_goals simp only [Option.some.injEq] at he2
      all_goals simp only [Rel] at hX
      · obtain ⟨p, _, rfl⟩ := hX; exact ⟨rfl, he2.symm⟩
      · obtain ⟨p, rfl, _⟩ := hX; exact ⟨rfl, he2.symm⟩
      · obtain ⟨p, rfl, _⟩ := hX; exact ⟨rfl, he2.symm⟩
    obtain ⟨h1, rfl⟩ := hgo _ hx
    exact wp_gives (m := pure (a.eval x)) (by simp only [execOp]; rw [pure_bind]; exact h1) (Gives.plain s rfl hx) hK
  case binOp op t x y u =>
    obtain ⟨he2, rfl⟩ := OR.of_val he
    clear he
    obtain ⟨Z, hZ, hR⟩ := binC_sound (P := P) (ox := x) (oy := y) he2 (evC_sound k x) (evC_sound k y) w
    exact wp_gives rfl (Gives.plain s hZ hR) hK
  case unOp op t x =>
    obtain ⟨he2, rfl⟩ := OR.of_val he
    clear he
    obtain ⟨Z, hZ, hR⟩ := unV_sound (P := P) he2 (evC_sound k x) w
    exact wp_gives (m := Op.unary op (a.eval x)) rfl (Gives.plain s hZ hR) hK
  case convert t u x => exact wp_gives (m := convert t u (a.eval x)) rfl (convC_sound s he (evC_sound k x)) hK
  case makeInterface t x =>
    cases ht : tiOf P t with
    | none => rw [ht] at he; simp [OpC.none] at he
    | some ti =>
      rw [ht] at he
      simp only at he
      cases hb : Nat.beq (nilKindD ti.und) 5 with
      | true => rw [hb] at he; simp [OpC.none] at he
      | false =>
        rw [hb] at he
        simp only [cond_false, OR.val.injEq] at he; obtain ⟨rfl, rfl⟩ := he
        refine wp_gives (m := Instr.makeInterface t (a.eval x)) rfl (Gives.plain (Z := .iface t (a.eval x)) s ?_ ?_) hK
        · have hu := run_und ht w
          simp only [Instr.makeInterface, Sem.run_bind, hu, Result.andThen_ok]
          cases hund : ti.und <;> first
            | rfl
            | (rw [hund] at hb; simp [nilKindD] at hb)
        · simp only [Rel]; exact ⟨_, rfl, evC_sound k x⟩
  case makeFunc fn first caps =>
    cases fn <;> simp only at he <;> try (simp [OpC.none] at he; done)
    rename_i f
    cases hf : first.isEmpty with
    | false => rw [hf] at he; simp [OpC.none] at he
    | true =>
      rw [hf] at he
      simp only [cond_true, OR.val.injEq] at he; obtain ⟨rfl, rfl⟩ := he
      have hfe : first = #[] := by simpa using hf
      subst hfe
      refine wp_gives (m := Instr.makeFunc (.func f) #[] (caps.map a.eval)) (by simp [execOp]) (Gives.plain s rfl ?_) hK
      simp only [Rel]
      exact ⟨_, rfl, by rw [mapToList]; simpa using evsC_sound k caps.toList⟩
  case makeSlice t l c => exact wp_gives (m := Instr.makeSlice t (a.eval l) (a.eval c)) rfl (makeSliceC_sound s (evC_sound k l) (evC_sound k c) he) hK
  case slice t x lo hi mx =>
    obtain ⟨he2, rfl⟩ := OR.of_val he
    clear he
    obtain ⟨Z, hZ, hR⟩ := sliceC_sound (P := P) he2 (evC_sound k x) (optC_sound k lo) (optC_sound k hi) (optC_sound k mx) w
    exact wp_gives (m := Instr.sliceAt t (a.eval x) (lo.map a.eval) (hi.map a.eval) (mx.map a.eval)) rfl (Gives.plain s hZ hR) hK
  case fieldAddr t x i =>
    obtain ⟨he2, rfl⟩ := OR.of_val he
    clear he
    obtain ⟨Z, hZ, hR⟩ := fieldAddrC_sound (P := P) he2 (evC_sound k x) w
    exact wp_gives (m := Instr.fieldAt t (a.eval x) i) rfl (Gives.plain s hZ hR) hK
  case field t x i =>
    obtain ⟨he2, rfl⟩ := OR.of_val he
    clear he
    obtain ⟨Z, hZ, hR⟩ := fieldC_sound (P := P) he2 (evC_sound k x) w
    exact wp_gives (m := Instr.field t (a.eval x) i) rfl (Gives.plain s hZ hR) hK
  case indexAddr t x i =>
    obtain ⟨he2, rfl⟩ := OR.of_val he
    clear he
    obtain ⟨Z, hZ, hR⟩ := indexAddrC_sound (P := P) he2 (evC_sound k x) (evC_sound k i) w
    exact wp_gives (m := Instr.indexAt t (a.eval x) (a.eval i)) rfl (Gives.plain s hZ hR) hK
  case index t x i =>
    obtain ⟨he2, rfl⟩ := OR.of_val he
    clear he
    obtain ⟨Z, hZ, hR⟩ := indexC_sound (P := P) he2 (evC_sound k x) (evC_sound k i) w
    exact wp_gives (m := Instr.index t (a.eval x) (a.eval i)) rfl (Gives.plain s hZ hR) hK
  case range t x => exact wp_gives (m := Instr.range t (a.eval x)) rfl (rangeC_sound s (evC_sound k x) he) hK
  case next it isS =>
    cases isS <;> simp only at he <;> try (simp [OpC.none] at he; done)
    exact wp_gives (m := Instr.next (a.eval it) true type) rfl (nextV_sound s (evC_sound k it) he) hK
  case extract x i =>
    have hx := evC_sound k x
    generalize (evC x).run r = vx at he hx
    cases vx <;> simp only at he <;> try (cases he; done)
    obtain ⟨he2, rfl⟩ := OR.of_val he
    clear he
    simp only [Rel] at hx
    obtain ⟨arr, hX, hl⟩ := hx
    obtain ⟨y, hy, hR⟩ := hl.get i v he2
    refine wp_gives (m := Instr.extract (a.eval x) i) rfl (Gives.plain (Z := y) s ?_ hR) hK
    rw [hX]
    have : arr[i]? = some y := by simpa using hy
    simp only [Instr.extract, this, Sem.run_pure]
  case call c =>
    obtain ⟨callee, args, types⟩ := c
    cases callee with
    | invoke _ _ => simp [callC, OpC.none] at he
    | builtin b =>
      simp only [callC] at he
      obtain ⟨cs, hcs⟩ : ∃ cs, execOp a.eval ⟨dst, .call ⟨.builtin b, args, types⟩, type, pos, after, guard⟩ = Go.builtin b types type cs (args.map a.eval) := by
        simp only [execOp, resolve, pure_bind, invoke]
        exact ⟨_, rfl⟩
      obtain ⟨m, hm, hg⟩ := builtC_sound (P := P) (ty := type) (cs := cs) s (evsC_sound k args.toList) he
      refine wp_gives (m := m) ?_ hg hK
      rw [hcs, ← hm, mapToList]
    | value f =>
      simp only [callC] at he
      have hf := evC_sound k f
      generalize hvf : (evC f).run r = vf at he hf
      cases vf <;> simp only [V.onFunc] at he <;> try (cases he; done)
      rename_i g cs
      simp only [Rel] at hf
      obtain ⟨caps, hX, hl⟩ := hf
      have hargs := (evsC_sound k args.toList).append hl
      obtain ⟨fn, hfn, hb⟩ := hbody _ _ _ _ _ he
      have hc := hcall _ _ _ _ _ he E w _ hargs s
      unfold Oper.wp
      have hex : execOp a.eval ⟨dst, .call ⟨.value f, args, types⟩, type, pos, after, guard⟩ = callFunc g (args.map a.eval ++ caps) := by
        simp only [execOp, resolve, hX, Deferred.ofValue, pure_bind, invoke]
        simp
      rw [hex, run_callFunc hN hfn hb]
      simp only [Oper.upon]
      have e : args.map a.eval ++ caps = (args.toList.map a.eval ++ caps.toList).toArray := by
        apply Array.ext'; simp
      rw [e]
      refine hc.mono fun e w' hq => ?_
      obtain ⟨E', x, rfl, q1, q2, q3⟩ := hq
      exact hK E' x w' q1 q2 q3
end
end Go.Proofs.Ytkjifhoiiciblaa.Am

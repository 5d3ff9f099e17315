/- The abstract machine, part K15 (a verified interpreter of the model's code: plain definitions and lemmas, no condition). -/
import Derived.Test.YtkjifhoiiciblaaK14
namespace Go.Proofs.Ytkjifhoiiciblaa.Am
open Go Go.RowKit

section
variable {P : Program}

/-- what a call gives is what the program gives -/
def CallOk (P : Program) (w0 : World) (call : CallF) : Prop :=
  ∀ f args h v h', call f args h = .val v h' → ∀ E w xs, RelL E args xs → Sim w0 E h w →
    Calls P f xs.toArray w fun e w' => ∃ E' x, e = .returned x ∧ E.le E' ∧ Rel E' v x ∧ Sim w0 E' h' w'

theorem wp_gives {o : Oper} {a : Act} {w w0 : World} {E : Env} {h' : Heap} {v : V} {m : Sem Value} {K : Act → World → Prop} {Q : Exit → Act → World → Prop}
    (hx : execOp a.eval o = (do pure (.value (← m)))) (g : Gives w0 P E w m v h') (hK : ∀ E' x w', E.le E' → Rel E' v x → Sim w0 E' h' w' → K (a.put o.dst x) w') : o.wp P a w K Q := by
  obtain ⟨Z, w', E', h1, h2, h3, h4⟩ := g
  unfold Oper.wp
  rw [hx, Sem.run_bind, h1]
  exact hK E' Z w' h2 h3 h4

theorem partsC_sound {E : Env} {nt : Nat} {r : Regs} {a : Act} (k : RegRel E nt r a) : ∀ l : List (Nat × Operand), RelP E ((partsC l).run r) (l.map fun (i, x) => (i, a.eval x))
  | [] => rfl
  | (i, x) :: l => by
    simp only [partsC, List.map, RelP]
    exact ⟨_, _, rfl, evC_sound k x, partsC_sound k l⟩

theorem optC_sound {E : Env} {nt : Nat} {r : Regs} {a : Act} (k : RegRel E nt r a) (x : Option Operand) : optRel E ((optC x).run r) (x.map a.eval) := by
  cases x with
  | none => rfl
  | some x => simp only [optC, optRel, Option.map]; exact ⟨_, rfl, evC_sound k x⟩

theorem onPtr_val {v : V} {f : Pa → Nat → OR} {r : V} {h : Heap} (he : v.onPtr .fail f = .val r h) : ∃ b off, v = .ptr b off ∧ f b off = .val r h := by
  cases v <;> simp only [V.onPtr] at he <;> first
    | (cases he; done)
    | exact ⟨_, _, rfl, he⟩

theorem nextV_sound {w0 : World} {E : Env} {h h' : Heap} {w : World} (s : Sim w0 E h w) {x v : V} {X : Value} {ty : TypeId} (hx : Rel E x X) (he : nextV x h = .val v h') : Gives w0 P E w (Instr.next X true ty) v h' := by
  unfold nextV at he
  obtain ⟨b, off, rfl, h1⟩ := onPtr_val he
  have hb := s.blk b
  cases hg : h.get b with
  | dead => rw [hg] at h1; cases h1
  | view _ _ => rw [hg] at h1; cases h1
  | cells _ _ _ _ => rw [hg] at h1; cases h1
  | iter st pos =>
    rw [hg] at h1 hb
    simp only at h1
    obtain ⟨h0, h2⟩ := cond_val h1
    rw [Nat.beq_eq] at h0
    subst h0
    obtain ⟨p, hp, hB, hbase, hh⟩ := hb
    simp only [Rel] at hx
    obtain ⟨q, hq, rfl⟩ := hx
    rw [hp] at hq; cases hq
    have hgo : (getObj p.blk).run P w = .ok (.stringIter ⟨⟨st⟩⟩ pos) w := by simp only [getObj, Sem.run, hh]
    have hsz : (⟨⟨st⟩⟩ : ByteArray).size = st.length := rfl
    cases hlt : Nat.blt pos st.length with
    | true =>
      rw [hlt] at h2
      simp only [cond_true, OR.val.injEq] at h2
      obtain ⟨rfl, rfl⟩ := h2
      rw [Nat.blt_eq] at hlt
      let o' : Obj := .stringIter ⟨⟨st⟩⟩ (pos + (decodeL st pos).2)
      let w' : World := { w with heap := w.heap.setIfInBounds p.blk o' }
      have hplt := (Array.getElem?_eq_some_iff.1 hh).1
      have hso : (setObj p.blk o').run P w = .ok () w' := by simp only [setObj, Sem.run, hh]; rfl
      refine ⟨.tuple #[.bool true, goInt pos, .int .i32 (decodeL st pos).1], w', E, ?_, Env.le.refl E, ?_, s.set (p := p) (by rw [hg]; rfl) hp hB (by simp [w']) (fun j hj => ?_) rfl rfl rfl ?_⟩
      · simp only [Instr.next, hbase, Sem.run_bind, hgo, Result.andThen_ok, hsz, if_pos hlt]
        have : (Utf8.decode (⟨⟨st⟩⟩ : ByteArray) pos) = decodeL st pos := rfl
        simp only [this]
        rw [hso]
        rfl
      · simp only [Rel, RelL]
        exact ⟨_, rfl, _, _, rfl, rfl, _, _, rfl, rfl, _, _, rfl, rfl, rfl⟩
      · simp only [w', Array.getElem?_setIfInBounds]
        rw [if_neg (fun e => hj e.symm)]
      · exact ⟨p, hp, hB, hbase, by simp [w', hplt, o']⟩
    | false =>
      rw [hlt] at h2
      simp only [cond_false, OR.val.injEq] at h2
      obtain ⟨rfl, rfl⟩ := h2
      have hlt' : ¬ pos < st.length := by rw [← Nat.blt_eq, hlt]; simp
      refine Gives.plain (Z := .tuple #[.bool false]) s ?_ ?_
      · simp only [Instr.next, hbase, Sem.run_bind, hgo, Result.andThen_ok, hsz, if_neg hlt', Sem.run_pure]
      · simp only [Rel, RelL]
        exact ⟨_, rfl, _, _, rfl, rfl, rfl⟩

theorem rangeC_sound {w0 : World} {E : Env} {h h' : Heap} {w : World} (s : Sim w0 E h w) {t : TypeId} {x v : V} {X : Value} (hx : Rel E x X) (he : (rangeC P t).run x h = .val v h') : Gives w0 P E w (Instr.range t X) v h' := by
  unfold rangeC at he
  cases ht : tiOf P t with
  | none => rw [ht] at he; cases he
  | some ti =>
    rw [ht] at he
    simp only at he
    have hu := run_und ht
    cases hund : ti.und with
    | string =>
      rw [hund] at he hu
      simp only at he
      cases x <;> simp only at he <;> try (cases he; done)
      rename_i st
      obtain ⟨h1, h2⟩ := cond_val he
      rw [Nat.ble_eq] at h1
      simp only [OR.val.injEq] at h2
      obtain ⟨rfl, rfl⟩ := h2
      have := hx.str_of; subst this
      have hnone := s.fresh h.next (Nat.le_refl _) h1
      have hput : E.put (pa h.next) ⟨w.heap.size, 0, 0⟩ (pa h.next) = some ⟨w.heap.size, 0, 0⟩ := by unfold Env.put; rw [if_pos rfl]
      refine ⟨.pointer (some ⟨w.heap.size, 0, none⟩), { w with heap := w.heap.push (.stringIter ⟨⟨st⟩⟩ 0) }, _, ?_, Env.le_put (p := ⟨w.heap.size, 0, 0⟩) hnone, ?_, s.alloc h1 0 ?_⟩
      · simp only [Instr.range, Sem.run_bind, hu, Result.andThen_ok, Sem.run_pure, run_newObj]
      · simp only [Rel]; exact ⟨_, hput, by simp⟩
      · exact ⟨_, hput, s.frame.size, rfl, by simp⟩
    | _ => rw [hund] at he; cases he

theorem run_newRow_cells {t : TypeId} {c : Array Value} (w : World) : (newRow t c).run P w = .ok ⟨w.heap.size, 0, none⟩ { w with heap := w.heap.push (.cells c t) } := by simp [newRow]

theorem appC_sound {w0 : World} {E : Env} {h h' : Heap} {w : World} (s : Sim w0 E h w) {t u : TypeId} {x y v : V} {X Y : Value} {ty : TypeId}
    (he : (appC P t u).run x y h = .val v h') (hx : Rel E x X) (hy : Rel E y Y) : Gives w0 P E w (Builtin.append_ #[t, u] ty #[X, Y]) v h' := by
  unfold appC at he
  cases ht : tiOf P t with
  | none => rw [ht] at he; cases he
  | some ti =>
    cases hu : tiOf P u with
    | none => rw [ht, hu] at he; cases he
    | some ui =>
      rw [ht, hu] at he
      simp only at he
      have main : (∀ k, ui.und ≠ .int k) → (match ti.und with
          | .slice e => match tiOf P e with
            | none => (⟨fun _ _ _ => .fail⟩ : AppC)
            | some ei => match ei.zero with
              | none => ⟨fun _ _ _ => .fail⟩
              | some z => bif Nat.ble 1 ei.size && Nat.ble ei.bytes 4096 && Nat.beq z.cells.length ei.size then ⟨appV ei.size⟩ else ⟨fun _ _ _ => .fail⟩
          | _ => ⟨fun _ _ _ => .fail⟩).run x y h = .val v h' → Gives w0 P E w (Builtin.append_ #[t, u] ty #[X, Y]) v h' := by
        intro hni he
        cases hund : ti.und with
        | slice e =>
          rw [hund] at he
          simp only at he
          cases hte : tiOf P e with
          | none => rw [hte] at he; cases he
          | some ei =>
            rw [hte] at he
            simp only at he
            cases hz : ei.zero with
            | none => rw [hz] at he; cases he
            | some z =>
              rw [hz] at he
              simp only at he
              cases hc : (Nat.ble 1 ei.size && Nat.ble ei.bytes 4096 && Nat.beq z.cells.length ei.size) with
              | false => rw [hc] at he; cases he
              | true =>
                rw [hc] at he
                simp only [cond_true] at he
                simp only [Bool.and_eq_true, Nat.ble_eq, Nat.beq_eq] at hc
                obtain ⟨xz, hxz, _, hxs⟩ := zero_cells (P := P) (E := E) hte hz w
                refine appV_sound s ⟨fun w => ?_, ⟨ui.und, fun w => run_und hu w, hni⟩, fun w => run_size hte w, fun w => run_bytes hte w, ⟨xz, hxz, by rw [hxs]; exact hc.2⟩, hc.1.1, hc.1.2⟩ he hx hy
                have := run_und ht w
                rw [hund] at this
                exact this
        | _ => rw [hund] at he; cases he
      cases hui : ui.und with
      | int k => rw [hui] at he; cases he
      | _ => rw [hui] at he; exact main (by rw [hui]; simp) he

theorem copyC_sound {w0 : World} {E : Env} {h h' : Heap} {w : World} (s : Sim w0 E h w) {t : TypeId} {rest : List TypeId} {x y v : V} {X Y : Value} {ty : TypeId}
    (he : (copyC P t).run x y h = .val v h') (hx : Rel E x X) (hy : Rel E y Y) : Gives w0 P E w (Builtin.copy_ (t :: rest).toArray ty #[X, Y]) v h' := by
  unfold copyC at he
  cases ht : tiOf P t with
  | none => rw [ht] at he; cases he
  | some ti =>
    rw [ht] at he
    simp only at he
    cases hund : ti.und with
    | slice e =>
      rw [hund] at he
      simp only at he
      cases hte : tiOf P e with
      | none => rw [hte] at he; cases he
      | some ei =>
        rw [hte] at he
        simp only at he
        exact copyV_sound s (fun w => by have := run_und ht w; rw [hund] at this; exact this) (fun w => run_size hte w) he hx hy
    | _ => rw [hund] at he; cases he

theorem toArray_eta {α : Type} (a : Array α) : a.toList.toArray = a := by simp

theorem builtC_sound {w0 : World} {E : Env} {h h' : Heap} {w : World} (s : Sim w0 E h w) {b : Builtin} {ts : Array TypeId} {args : List V} {xs : List Value} {v : V} {ty : TypeId} {cs : Array Bool} (hl : RelL E args xs)
    (he : (builtC P b ts.toList).run args h = .val v h') : ∃ m : Sem Value, Go.builtin b ts ty cs xs.toArray = (do pure (.value (← m))) ∧ Gives w0 P E w m v h' := by
  have one : ∀ {x : V}, RelL E [x] xs → ∃ X, xs = [X] ∧ Rel E x X := by
    intro x h
    simp only [RelL] at h
    obtain ⟨y, ys, rfl, hy, rfl⟩ := h
    exact ⟨y, rfl, hy⟩
  have two : ∀ {x y : V}, RelL E [x, y] xs → ∃ X Y, xs = [X, Y] ∧ Rel E x X ∧ Rel E y Y := by
    intro x y h
    simp only [RelL] at h
    obtain ⟨X, _, rfl, hX, Y, _, rfl, hY, rfl⟩ := h
    exact ⟨X, Y, rfl, hX, hY⟩
  cases b <;> simp only [builtC] at he <;> try (simp [BuiltC.none] at he; done)
  · -- append
    cases hts : ts.toList with
    | nil => rw [hts] at he; simp [BuiltC.none] at he
    | cons t ts1 =>
      rw [hts] at he
      cases ts1 with
      | nil => simp [BuiltC.none] at he
      | cons u ts2 =>
        cases ts2 with
        | cons _ _ => simp [BuiltC.none] at he
        | nil =>
          simp only at he
          match args, he, hl with
          | [x, y], he, hl =>
            obtain ⟨X, Y, rfl, hX, hY⟩ := two hl
            have e : ts = #[t, u] := by rw [← toArray_eta ts, hts]
            exact ⟨_, rfl, by rw [e]; exact appC_sound s he hX hY⟩
          | [], he, _ => cases he
          | [_], he, _ => cases he
          | _ :: _ :: _ :: _, he, _ => cases he
  · -- copy
    cases hts : ts.toList with
    | nil => rw [hts] at he; simp [BuiltC.none] at he
    | cons t ts1 =>
      rw [hts] at he
      simp only at he
      match args, he, hl with
      | [x, y], he, hl =>
        obtain ⟨X, Y, rfl, hX, hY⟩ := two hl
        have e : ts = (t :: ts1).toArray := by rw [← toArray_eta ts, hts]
        exact ⟨_, rfl, by rw [e]; exact copyC_sound s he hX hY⟩
      | [], he, _ => cases he
      | [_], he, _ => cases he
      | _ :: _ :: _ :: _, he, _ => cases he
  · -- len
    cases hts : ts.toList with
    | nil => rw [hts] at he; simp [BuiltC.none] at he
    | cons t ts1 =>
      rw [hts] at he
      cases ts1 with
      | cons _ _ => simp [BuiltC.none] at he
      | nil =>
        simp only at he
        cases ht : tiOf P t with
        | none => rw [ht] at he; simp [BuiltC.none] at he
        | some ti =>
          rw [ht] at he
          simp only at he
          match args, he, hl with
          | [x], he, hl =>
            obtain ⟨X, rfl, hX⟩ := one hl
            obtain ⟨he2, rfl⟩ := OR.of_val he
            obtain ⟨Z, hZ, hR⟩ := lenOne_sound (P := P) ht he2 hX ty [] w
            have e : ts = [t].toArray := by rw [← toArray_eta ts, hts]
            exact ⟨_, rfl, by rw [e]; exact Gives.plain s hZ hR⟩
          | [], he, _ => cases he
          | _ :: _ :: _, he, _ => cases he
  · -- max
    obtain ⟨he2, rfl⟩ := OR.of_val he
    clear he
    cases args with
    | nil => cases he2
    | cons x args =>
      simp only [pickV] at he2
      obtain ⟨k, a, rfl, h1⟩ := onInt_some he2
      simp only [RelL] at hl
      obtain ⟨X, ys, rfl, hX, hl⟩ := hl
      have := hX.int_of; subst this
      obtain ⟨Z, hZ, hR⟩ := pickFrom_sound (P := P) false args ys k a v hl h1 w
      exact ⟨_, rfl, Gives.plain (Z := Z) s (by simpa [Builtin.max_] using hZ) hR⟩
  · -- min
    obtain ⟨he2, rfl⟩ := OR.of_val he
    clear he
    cases args with
    | nil => cases he2
    | cons x args =>
      simp only [pickV] at he2
      obtain ⟨k, a, rfl, h1⟩ := onInt_some he2
      simp only [RelL] at hl
      obtain ⟨X, ys, rfl, hX, hl⟩ := hl
      have := hX.int_of; subst this
      obtain ⟨Z, hZ, hR⟩ := pickFrom_sound (P := P) true args ys k a v hl h1 w
      exact ⟨_, rfl, Gives.plain (Z := Z) s (by simpa [Builtin.min_] using hZ) hR⟩
end
end Go.Proofs.Ytkjifhoiiciblaa.Am

/- The abstract machine and its walks (a verified interpreter of the model's code: plain definitions and lemmas, no condition). -/
import Derived.Test.YtpfmfpakbfkfoaaGreatDoorM2
import Derived.RangeFuncLeaves
import Derived.RecoverIn
import Derived.OrdersIn

namespace Go.Proofs.YtpfmfpakbfkfoaaGreatDoor.Am
set_option linter.unusedSimpArgs false
variable [Lay]
set_option linter.unusedSectionVars false
open Go Go.RowKit

section
variable {P : Program}

/-- no fence; of what make the frame is -/
abbrev Wd (rd : Option Nat) : Fence := { fn := fun _ => True, depth := none, alive := false, round := rd }

theorem callsIn_wd {rd : Option Nat} {n : Nat} {f : FuncId} {args : Array Value} {w : World} {R : Ending → World → Prop} : CallsIn (Wd rd) n P f args w R ↔ Calls P f args w R := callsIn_wide

theorem room_wd {rd : Option Nat} (n : Nat) : (Wd rd).room n := fun _ h => by simp [Wd] at h

/-- a panic of one entry -/
abbrev panic1 (x : Value) : List PanicEntry := [{ v := x, recovered := false }]

/-- what a call gives is what the program gives -/
structure CallOk (P : Program) (call : CallF) : Prop where
  fn : ∀ (w0 : Fr) f args h v h', f ≠ yieldId → call f args h = .val v h' → ∀ E w xs, RelL E args xs → Sim w0 E h w →
    ((∃ fn, P.funcs[f]? = some fn ∧ fn.body.isSome = true) ∧ Calls P f xs.toArray w fun e w' => ∃ E' x, e = .returned x ∧ E.le E' ∧ Rel E' v x ∧ Sim w0 E' h' w') ∨
    ∃ E' x w', (callFunc f xs.toArray).run P w = .ok (.value x) w' ∧ E.le E' ∧ Rel E' v x ∧ Sim w0 E' h' w'
  pan : ∀ (w0 : Fr) f args h v h', f ≠ yieldId → call f args h = .pan v h' → ∀ E w xs, RelL E args xs → Sim w0 E h w →
    (∃ fn, P.funcs[f]? = some fn ∧ fn.body.isSome = true) ∧ Calls P f xs.toArray w fun e w' => ∃ E' x, e = .panicked (panic1 x) ∧ E.le E' ∧ Rel E' v x ∧ Sim w0 E' h' w'
  yl : ∀ (w0 : Fr) args b h v h', call yieldId (args ++ [.ptr b 0]) h = .val v h' → ∀ E w xs p, RelL E args xs → Sim w0 E h w → E b = some p →
    ∃ f tmps assign body, (Instr.yield p.blk xs.toArray).run P w = .ok (.round p.blk f tmps assign body) w ∧
      RoundIn (Wd none) 0 P p.blk f tmps assign body w fun e w' => ∃ E' x, e = .returned x ∧ E.le E' ∧ Rel E' v x ∧ Sim w0 E' h' w'
  yp : ∀ args h v h', call yieldId args h ≠ .pan v h'

theorem semAt_wd {rd : Option Nat} {o : Oper} (hnd : ∀ c, o.op ≠ .defer c) (ρ : Operand → Value) : o.semAt (Wd rd).round ρ = execOp ρ o := Oper.semAt_eq _ ρ o hnd

theorem wp_gives {rd : Option Nat} {o : Oper} {a : Act} {w : World} {w0 : Fr} {E : Env} {h' : Heap} {v : V} {m : Sem Value} {K : Act → World → Prop} {Q : Exit → Act → World → Prop}
    (hx : execOp a.eval o = (do pure (.value (← m)))) (g : Gives w0 P E w m v h') (hK : ∀ E' x w', E.le E' → Rel E' v x → Sim w0 E' h' w' → K (a.put o.dst x) w') (hnd : ∀ c, o.op ≠ .defer c := by intro c h; cases h) :
    o.wpIn (Wd rd) 0 P a w K Q := by
  obtain ⟨Z, w', E', h1, h2, h3, h4⟩ := g
  refine ⟨fun _ _ => trivial, ?_⟩
  rw [semAt_wd hnd, hx, Sem.run_bind, h1]
  exact hK E' Z w' h2 h3 h4

theorem partsC_sound {E : Env} {nt : Nat} {r : Regs} {a : Act} (k : RegRel0 E nt r a) : ∀ l : List (Nat × Operand), RelP E ((partsC l).run r) (l.map fun (i, x) => (i, a.eval x))
  | [] => rfl
  | (i, x) :: l => by
    simp only [partsC, List.map, RelP]
    exact ⟨_, _, rfl, evC_sound k x, partsC_sound k l⟩

theorem optC_sound {E : Env} {nt : Nat} {r : Regs} {a : Act} (k : RegRel0 E nt r a) (x : Option Operand) : optRel E ((optC x).run r) (x.map a.eval) := by
  cases x with
  | none => rfl
  | some x => simp only [optC, optRel, Option.map]; exact ⟨_, rfl, evC_sound k x⟩

theorem onPtr_val {v : V} {f : Pa → Nat → OR} {r : V} {h : Heap} (he : v.onPtr .fail f = .val r h) : ∃ b off, v = .ptr b off ∧ f b off = .val r h := by
  cases v <;> simp only [V.onPtr] at he <;> first
    | (cases he; done)
    | exact ⟨_, _, rfl, he⟩

theorem nextV_sound {w0 : Fr} {E : Env} {h h' : Heap} {w : World} (s : Sim w0 E h w) {x v : V} {X : Value} {ty : TypeId} (hx : Rel E x X) (he : nextV x h = .val v h') : Gives w0 P E w (Instr.next X true ty) v h' := by
  unfold nextV at he
  obtain ⟨b, off, rfl, h1⟩ := onPtr_val he
  have hb := s.at (p := _) (by simp only [Rel] at hx; exact hx.choose_spec.1)
  cases hg : h.get b with
  | dead => rw [hg] at h1; cases h1
  | view _ _ => rw [hg] at h1; cases h1
  | cells _ _ _ _ => rw [hg] at h1; cases h1
  | mp _ _ => rw [hg] at h1; cases h1
  | lp _ => rw [hg] at h1; cases h1
  | dfr => rw [hg] at h1; cases h1
  | mset _ => rw [hg] at h1; cases h1
  | mit _ _ _ _ => rw [hg] at h1; cases h1
  | iter st pos =>
    rw [hg] at h1 hb
    simp only at h1
    obtain ⟨h0, h2⟩ := cond_val h1
    rw [Nat.beq_eq] at h0
    subst h0
    obtain ⟨p, hp, hB, hbase, hh⟩ := hb
    simp only [Rel] at hx
    obtain ⟨q, hq, rfl⟩ := hx
    rw [hp] at hq; cases hq
    have hgo : (getObj p.blk).run P w = .ok (.stringIter ⟨⟨st⟩⟩ pos) w := by simp only [getObj, Sem.run, hh]
    have hsz : (⟨⟨st⟩⟩ : ByteArray).size = st.length := rfl
    cases hlt : Nat.blt pos st.length with
    | true =>
      rw [hlt] at h2
      simp only [cond_true, OR.val.injEq] at h2
      obtain ⟨rfl, rfl⟩ := h2
      rw [Nat.blt_eq] at hlt
      let o' : Obj := .stringIter ⟨⟨st⟩⟩ (pos + (decodeL st pos).2)
      let w' : World := { w with heap := w.heap.setIfInBounds p.blk o' }
      have hplt := (Array.getElem?_eq_some_iff.1 hh).1
      have hso : (setObj p.blk o').run P w = .ok () w' := by simp only [setObj, Sem.run, hh]; rfl
      refine ⟨.tuple #[.bool true, goInt pos, .int .i32 (decodeL st pos).1], w', E, ?_, Env.le.refl E, ?_, s.set (p := p) (by rw [hg]; rfl) hp hB (by simp [w']) (fun j hj => ?_) rfl rfl rfl (fun _ _ _ e => by cases e) ?_⟩
      · simp only [Instr.next, hbase, Sem.run_bind, hgo, Result.andThen_ok, hsz, if_pos hlt]
        have : (Utf8.decode (⟨⟨st⟩⟩ : ByteArray) pos) = decodeL st pos := rfl
        simp only [this]
        rw [hso]
        rfl
      · simp only [Rel, RelL]
        exact ⟨_, rfl, _, _, rfl, rfl, _, _, rfl, rfl, _, _, rfl, rfl, rfl⟩
      · simp only [w', Array.getElem?_setIfInBounds]
        rw [if_neg (fun e => hj e.symm)]
      · exact ⟨p, hp, hB, hbase, by simp [w', hplt, o']⟩
    | false =>
      rw [hlt] at h2
      simp only [cond_false, OR.val.injEq] at h2
      obtain ⟨rfl, rfl⟩ := h2
      have hlt' : ¬ pos < st.length := by rw [← Nat.blt_eq, hlt]; simp
      refine Gives.plain (Z := .tuple #[.bool false]) s ?_ ?_
      · simp only [Instr.next, hbase, Sem.run_bind, hgo, Result.andThen_ok, hsz, if_neg hlt', Sem.run_pure]
      · simp only [Rel, RelL]
        exact ⟨_, rfl, _, _, rfl, rfl, rfl⟩

theorem rangeC_sound {w0 : Fr} {E : Env} {h h' : Heap} {w : World} (s : Sim w0 E h w) {t : TypeId} {x v : V} {X : Value} (hx : Rel E x X) (he : (rangeC P t).run x h = .val v h') : Gives w0 P E w (Instr.range t X) v h' := by
  unfold rangeC at he
  cases ht : tiOf P t with
  | none => rw [ht] at he; cases he
  | some ti =>
    rw [ht] at he
    simp only at he
    have hu := run_und ht
    cases hund : ti.und with
    | string =>
      rw [hund] at he hu
      simp only at he
      cases x <;> simp only at he <;> try (cases he; done)
      rename_i st
      simp only [OR.val.injEq] at he
      obtain ⟨rfl, rfl⟩ := he
      have := hx.str_of; subst this
      have hnone := s.fresh h.next (Nat.le_refl _)
      have hput : E.put (pa h.next) ⟨w.heap.size, 0, 0⟩ (pa h.next) = some ⟨w.heap.size, 0, 0⟩ := by unfold Env.put; rw [if_pos rfl]
      refine ⟨.pointer (some ⟨w.heap.size, 0, none⟩), { w with heap := w.heap.push (.stringIter ⟨⟨st⟩⟩ 0) }, _, ?_, Env.le_put (p := ⟨w.heap.size, 0, 0⟩) hnone, ?_, s.alloc 0 ?_⟩
      · simp only [Instr.range, Sem.run_bind, hu, Result.andThen_ok, Sem.run_pure, run_newObj]
      · simp only [Rel]; exact ⟨_, hput, by simp⟩
      · exact ⟨_, hput, s.frame.size, rfl, by simp⟩
    | map kt et =>
      rw [hund] at he hu
      exact rangeMap_sound s (hu w) hx he
    | _ => rw [hund] at he; cases he

theorem appC_sound {w0 : Fr} {E : Env} {h h' : Heap} {w : World} (s : Sim w0 E h w) {t u : TypeId} {x y v : V} {X Y : Value} {ty : TypeId}
    (he : (appC P t u).run x y h = .val v h') (hx : Rel E x X) (hy : Rel E y Y) : Gives w0 P E w (Builtin.append_ #[t, u] ty #[X, Y]) v h' := by
  unfold appC at he
  cases ht : tiOf P t with
  | none => rw [ht] at he; cases he
  | some ti =>
    cases hu : tiOf P u with
    | none => rw [ht, hu] at he; cases he
    | some ui =>
      rw [ht, hu] at he
      simp only at he
      have main : (∀ k, ui.und ≠ .int k) → (match ti.und with
          | .slice e => match tiOf P e with
            | none => (⟨fun _ _ _ => .fail⟩ : AppC)
            | some ei => match ei.zero with
              | none => ⟨fun _ _ _ => .fail⟩
              | some z => bif Nat.ble 1 ei.size && Nat.ble ei.bytes 4096 && Nat.beq z.cells.length ei.size then ⟨appV ei.size⟩ else ⟨fun _ _ _ => .fail⟩
          | _ => ⟨fun _ _ _ => .fail⟩).run x y h = .val v h' → Gives w0 P E w (Builtin.append_ #[t, u] ty #[X, Y]) v h' := by
        intro hni he
        cases hund : ti.und with
        | slice e =>
          rw [hund] at he
          simp only at he
          cases hte : tiOf P e with
          | none => rw [hte] at he; cases he
          | some ei =>
            rw [hte] at he
            simp only at he
            cases hz : ei.zero with
            | none => rw [hz] at he; cases he
            | some z =>
              rw [hz] at he
              simp only at he
              cases hc : (Nat.ble 1 ei.size && Nat.ble ei.bytes 4096 && Nat.beq z.cells.length ei.size) with
              | false => rw [hc] at he; cases he
              | true =>
                rw [hc] at he
                simp only [cond_true] at he
                simp only [Bool.and_eq_true, Nat.ble_eq, Nat.beq_eq] at hc
                obtain ⟨xz, hxz, _, hxs⟩ := zero_cells (P := P) (E := E) hte hz w
                refine appV_sound s ⟨fun w => ?_, ⟨ui.und, fun w => run_und hu w, hni⟩, fun w => run_size hte w, fun w => run_bytes hte w, ⟨xz, hxz, by rw [hxs]; exact hc.2⟩, hc.1.1, hc.1.2⟩ he hx hy
                have := run_und ht w
                rw [hund] at this
                exact this
        | _ => rw [hund] at he; cases he
      cases hui : ui.und with
      | int k =>
        rw [hui] at he
        simp only at he
        cases hund : ti.und with
        | slice e =>
          rw [hund] at he
          simp only at he
          cases hte : tiOf P e with
          | none => rw [hte] at he; cases he
          | some ei =>
            rw [hte] at he
            simp only at he
            cases hz : ei.zero with
            | none => rw [hz] at he; cases he
            | some z =>
              rw [hz] at he
              simp only at he
              cases hc : (Nat.ble 1 ei.size && Nat.ble ei.bytes 4096 && Nat.beq z.cells.length ei.size) with
              | false => rw [hc] at he; cases he
              | true =>
                rw [hc] at he
                simp only [cond_true] at he
                simp only [Bool.and_eq_true, Nat.ble_eq, Nat.beq_eq] at hc
                obtain ⟨xz, hxz, hzl, hxs⟩ := zero_cells (P := P) (E := E) hte hz w
                have hut : ∀ w, (underlying t).run P w = .ok (.slice e) w := fun w => by have := run_und ht w; rw [hund] at this; exact this
                have huu : ∀ w, (underlying u).run P w = .ok (.int k) w := fun w => by have := run_und hu w; rw [hui] at this; exact this
                have H : ZTypes P t u e ei.size ei.bytes k xz := ⟨hut, huu, fun w => run_size hte w, fun w => run_bytes hte w, hxz, by rw [hxs]; exact hc.2, hc.1.1, hc.1.2⟩
                unfold appZ at he
                split at he
                case h_2 => cases he
                rename_i kk m
                split at he
                case h_2 => cases he
                rename_i n
                obtain ⟨hcc, hv⟩ := cond_val he
                simp only [Bool.and_eq_true, Nat.ble_eq] at hcc
                have hk := eqKind_eq hcc.1
                subst hk
                simp only [Rel] at hy
                subst hy
                have hrl := repeat_rel hzl n
                have hlen : (repeatV z.cells n).length = n * ei.size := by
                  rw [← hrl.length]
                  simp [Builtin.zeroCells, hxs, hc.2]
                exact appW_sound s hc.1.1 hrl hlen (by have := hcc.2; unfold top; omega) (fun w' A sLen sCap a b c => run_appZ_in H hcc.2 a b c) (fun A sLen sCap old a b c d f => run_appZ_out H hcc.2 A sLen sCap old a b c d f) hv hx
        | _ => rw [hund] at he; cases he
      | _ => rw [hui] at he; exact main (by rw [hui]; simp) he

theorem copyC_sound {w0 : Fr} {E : Env} {h h' : Heap} {w : World} (s : Sim w0 E h w) {t : TypeId} {rest : List TypeId} {x y v : V} {X Y : Value} {ty : TypeId}
    (he : (copyC P t).run x y h = .val v h') (hx : Rel E x X) (hy : Rel E y Y) : Gives w0 P E w (Builtin.copy_ (t :: rest).toArray ty #[X, Y]) v h' := by
  unfold copyC at he
  cases ht : tiOf P t with
  | none => rw [ht] at he; cases he
  | some ti =>
    rw [ht] at he
    simp only at he
    cases hund : ti.und with
    | slice e =>
      rw [hund] at he
      simp only at he
      cases hte : tiOf P e with
      | none => rw [hte] at he; cases he
      | some ei =>
        rw [hte] at he
        simp only at he
        exact copyV_sound s (fun w => by have := run_und ht w; rw [hund] at this; exact this) (fun w => run_size hte w) he hx hy
    | _ => rw [hund] at he; cases he

theorem clear_sound {w0 : Fr} {E : Env} {h h' : Heap} {w : World} (s : Sim w0 E h w) {t : TypeId} {x v : V} {X : Value} {ty : TypeId} {z : List V} (hc : clearC P t = some z)
    (he : clearV z x h = .val v h') (hx : Rel E x X) : Gives w0 P E w (Builtin.clear_ #[t] ty #[X]) v h' := by
  unfold clearC at hc
  cases ht : tiOf P t with
  | none => rw [ht] at hc; cases hc
  | some ti =>
    rw [ht] at hc
    simp only at hc
    cases hund : ti.und with
    | slice e =>
      rw [hund] at hc
      simp only at hc
      cases hte : tiOf P e with
      | none => rw [hte] at hc; cases hc
      | some ei =>
        rw [hte] at hc
        simp only at hc
        cases hz : ei.zero with
        | none => rw [hz] at hc; cases hc
        | some z0 =>
          rw [hz] at hc
          simp only [Option.some.injEq] at hc
          subst hc
          have hu : ∀ w, (underlying t).run P w = .ok (.slice e) w := fun w => by have := run_und ht w; rw [hund] at this; exact this
          obtain ⟨z, hzr, hzl, hzs⟩ := zero_cells (P := P) (E := E) hte hz w
          have nothing : ∀ a c, X = .slice a 0 c → v = .tuple [] → h' = h → Gives w0 P E w (Builtin.clear_ #[t] ty #[X]) v h' := by
            intro a c hX hv hh
            subst hX hv hh
            refine ⟨.tuple #[], w, E, ?_, Env.le.refl E, ?_, s⟩
            · cases a <;> simp [Builtin.clear_, Sem.run_bind, hu, Result.andThen_ok, Sem.run_pure]
            · simp only [Rel]; exact ⟨_, rfl, rfl⟩
          have some' : ∀ (b : Pa) (off n c : Nat) (p : Pl), E b = some p → X = .slice (some ⟨p.blk, p.base + off, none⟩) n c → (bif Nat.beq n 0 then (OR.val (.tuple []) h) else (match lay h b off (repeatV z0.cells n) with
              | some h' => OR.val (.tuple []) h'
              | none => .fail)) = .val v h' → Gives w0 P E w (Builtin.clear_ #[t] ty #[X]) v h' := by
            intro b off n c p hp hX he
            cases n with
            | zero =>
              simp only [Nat.beq_refl, cond_true, OR.val.injEq] at he
              exact nothing _ _ hX he.1.symm he.2.symm
            | succ n =>
              simp only [show Nat.beq (n + 1) 0 = false from rfl, cond_false] at he
              cases hl : lay h b off (repeatV z0.cells (n + 1)) with
              | none => rw [hl] at he; cases he
              | some h1 =>
                rw [hl] at he
                simp only [OR.val.injEq] at he
                obtain ⟨rfl, rfl⟩ := he
                obtain ⟨w', g1, g2⟩ := lay_sound (P := P) s (repeat_rel hzl (n + 1)) hl hp
                subst hX
                refine ⟨.tuple #[], w', E, ?_, Env.le.refl E, ?_, g2⟩
                · simp only [Builtin.clear_, Sem.run_bind, List.getElem?_toArray, List.getElem?_cons_zero, hu, hzr, Result.andThen_ok]
                  have : (storeCells ⟨p.blk, p.base + off, none⟩ (Builtin.zeroCells z.cells (n + 1)).toList).run P w = .ok () w' := g1
                  simp [this, Sem.run_pure, Result.andThen_ok]
                · simp only [Rel]; exact ⟨_, rfl, rfl⟩
          unfold clearV at he
          cases x <;> simp only at he <;> try (cases he; done)
          · simp only [Rel] at hx
            obtain ⟨p, g1, g2, g3⟩ := hx
            exact some' _ _ _ _ p g1 g3 he
          · simp only [Rel] at hx
            obtain ⟨p, g1, g2, g3⟩ := hx
            exact some' _ _ _ _ p g1 g3 he
          · simp only [Rel] at hx
            obtain ⟨a, c, rfl⟩ := hx
            simp only [OR.val.injEq] at he
            exact nothing _ _ rfl he.1.symm he.2.symm
          · simp only [Rel] at hx
            simp only [OR.val.injEq] at he
            exact nothing _ _ hx he.1.symm he.2.symm
    | _ => rw [hund] at hc; cases hc

theorem cap_sound {E : Env} {t : TypeId} {ti : TI} {x v : V} {X : Value} {ty : TypeId} (ht : tiOf P t = some ti) (hs : isSliceD ti.und = true) (he : capV x = some v) (hx : Rel E x X) (w : World) :
    ∃ Z, (Builtin.cap_ #[t] ty #[X]).run P w = .ok Z w ∧ Rel E v Z := by
  cases hund : ti.und with
  | slice e =>
    have hu : ∀ w, (underlying t).run P w = .ok (.slice e) w := fun w => by have := run_und ht w; rw [hund] at this; exact this
    cases x <;> simp only [capV] at he <;> try (cases he; done)
    · simp only [Rel] at hx
      obtain ⟨p, _, _, rfl⟩ := hx
      cases he
      refine ⟨_, ?_, rfl⟩
      simp [Builtin.cap_, Sem.run_bind, hu, Result.andThen_ok, Sem.run_pure]
      rfl
    · simp only [Rel] at hx
      subst hx
      cases he
      refine ⟨_, ?_, rfl⟩
      simp [Builtin.cap_, Sem.run_bind, hu, Result.andThen_ok, Sem.run_pure]
      rfl
  | _ => rw [hund] at hs; cases hs

theorem toArray_eta {α : Type} (a : Array α) : a.toList.toArray = a := by simp

theorem builtC_sound {w0 : Fr} {E : Env} {h h' : Heap} {w : World} (s : Sim w0 E h w) {b : Builtin} {ts : Array TypeId} {args : List V} {xs : List Value} {v : V} {ty : TypeId} {cs : Array Bool} (hl : RelL E args xs)
    (he : (builtC P b ts.toList).run args h = .val v h') : ∃ m : Sem Value, Go.builtin b ts ty cs xs.toArray = (do pure (.value (← m))) ∧ Gives w0 P E w m v h' := by
  have one : ∀ {x : V}, RelL E [x] xs → ∃ X, xs = [X] ∧ Rel E x X := by
    intro x h
    simp only [RelL] at h
    obtain ⟨y, ys, rfl, hy, rfl⟩ := h
    exact ⟨y, rfl, hy⟩
  have two : ∀ {x y : V}, RelL E [x, y] xs → ∃ X Y, xs = [X, Y] ∧ Rel E x X ∧ Rel E y Y := by
    intro x y h
    simp only [RelL] at h
    obtain ⟨X, _, rfl, hX, Y, _, rfl, hY, rfl⟩ := h
    exact ⟨X, Y, rfl, hX, hY⟩
  cases b <;> simp only [builtC] at he <;> try (simp [BuiltC.none] at he; done)
  · -- append
    cases hts : ts.toList with
    | nil => rw [hts] at he; simp [BuiltC.none] at he
    | cons t ts1 =>
      rw [hts] at he
      cases ts1 with
      | nil => simp [BuiltC.none] at he
      | cons u ts2 =>
        cases ts2 with
        | cons _ _ => simp [BuiltC.none] at he
        | nil =>
          simp only at he
          match args, he, hl with
          | [x, y], he, hl =>
            obtain ⟨X, Y, rfl, hX, hY⟩ := two hl
            have e : ts = #[t, u] := by rw [← toArray_eta ts, hts]
            exact ⟨_, rfl, by rw [e]; exact appC_sound s he hX hY⟩
          | [], he, _ => cases he
          | [_], he, _ => cases he
          | _ :: _ :: _ :: _, he, _ => cases he
  · -- cap
    cases hts : ts.toList with
    | nil => rw [hts] at he; simp [BuiltC.none] at he
    | cons t ts1 =>
      rw [hts] at he
      cases ts1 with
      | cons _ _ => simp [BuiltC.none] at he
      | nil =>
        simp only at he
        cases ht : tiOf P t with
        | none => rw [ht] at he; simp [BuiltC.none] at he
        | some ti =>
          rw [ht] at he
          simp only at he
          cases hs : isSliceD ti.und with
          | false => rw [hs] at he; simp [BuiltC.none] at he
          | true =>
            rw [hs] at he
            simp only [cond_true] at he
            match args, he, hl with
            | [x], he, hl =>
              obtain ⟨X, rfl, hX⟩ := one hl
              have e : ts = #[t] := by rw [← toArray_eta ts, hts]
              obtain ⟨he2, rfl⟩ := OR.of_val he
              obtain ⟨Z, hZ, hR⟩ := cap_sound (P := P) (ty := ty) ht hs he2 hX w
              exact ⟨_, rfl, by rw [e]; exact Gives.plain s hZ hR⟩
            | [], he, _ => cases he
            | _ :: _ :: _, he, _ => cases he
  · -- clear
    cases hts : ts.toList with
    | nil => rw [hts] at he; simp [BuiltC.none] at he
    | cons t ts1 =>
      rw [hts] at he
      cases ts1 with
      | cons _ _ => simp [BuiltC.none] at he
      | nil =>
        simp only at he
        cases hc : clearC P t with
        | none => rw [hc] at he; simp [BuiltC.none] at he
        | some z =>
          rw [hc] at he
          simp only at he
          match args, he, hl with
          | [x], he, hl =>
            obtain ⟨X, rfl, hX⟩ := one hl
            have e : ts = #[t] := by rw [← toArray_eta ts, hts]
            exact ⟨_, rfl, by rw [e]; exact clear_sound s hc he hX⟩
          | [], he, _ => cases he
          | _ :: _ :: _, he, _ => cases he
  · -- copy
    cases hts : ts.toList with
    | nil => rw [hts] at he; simp [BuiltC.none] at he
    | cons t ts1 =>
      rw [hts] at he
      simp only at he
      match args, he, hl with
      | [x, y], he, hl =>
        obtain ⟨X, Y, rfl, hX, hY⟩ := two hl
        have e : ts = (t :: ts1).toArray := by rw [← toArray_eta ts, hts]
        exact ⟨_, rfl, by rw [e]; exact copyC_sound s he hX hY⟩
      | [], he, _ => cases he
      | [_], he, _ => cases he
      | _ :: _ :: _ :: _, he, _ => cases he
  · -- len
    cases hts : ts.toList with
    | nil => rw [hts] at he; simp [BuiltC.none] at he
    | cons t ts1 =>
      rw [hts] at he
      cases ts1 with
      | cons _ _ => simp [BuiltC.none] at he
      | nil =>
        simp only at he
        cases ht : tiOf P t with
        | none => rw [ht] at he; simp [BuiltC.none] at he
        | some ti =>
          rw [ht] at he
          simp only at he
          match args, he, hl with
          | [x], he, hl =>
            obtain ⟨X, rfl, hX⟩ := one hl
            have e : ts = [t].toArray := by rw [← toArray_eta ts, hts]
            cases hm : isMapD ti.und with
            | true =>
              rw [hm] at he
              exact ⟨_, rfl, by rw [e]; exact lenMap_sound s ht hm hX ty [] he⟩
            | false =>
              rw [hm] at he
              simp only [cond_false] at he
              obtain ⟨he2, rfl⟩ := OR.of_val he
              obtain ⟨Z, hZ, hR⟩ := lenOne_sound (P := P) ht he2 hX ty [] w
              exact ⟨_, rfl, by rw [e]; exact Gives.plain s hZ hR⟩
          | [], he, _ => cases hm : isMapD ti.und <;> rw [hm] at he <;> cases he
          | _ :: _ :: _, he, _ => cases hm : isMapD ti.und <;> rw [hm] at he <;> cases he
  · -- max
    obtain ⟨he2, rfl⟩ := OR.of_val he
    clear he
    cases args with
    | nil => cases he2
    | cons x args =>
      simp only [pickV] at he2
      obtain ⟨k, a, rfl, h1⟩ := onInt_some he2
      simp only [RelL] at hl
      obtain ⟨X, ys, rfl, hX, hl⟩ := hl
      have := hX.int_of; subst this
      obtain ⟨Z, hZ, hR⟩ := pickFrom_sound (P := P) false args ys k a v hl h1 w
      exact ⟨_, rfl, Gives.plain (Z := Z) s (by simpa [Builtin.max_] using hZ) hR⟩
  · -- min
    obtain ⟨he2, rfl⟩ := OR.of_val he
    clear he
    cases args with
    | nil => cases he2
    | cons x args =>
      simp only [pickV] at he2
      obtain ⟨k, a, rfl, h1⟩ := onInt_some he2
      simp only [RelL] at hl
      obtain ⟨X, ys, rfl, hX, hl⟩ := hl
      have := hX.int_of; subst this
      obtain ⟨Z, hZ, hR⟩ := pickFrom_sound (P := P) true args ys k a v hl h1 w
      exact ⟨_, rfl, Gives.plain (Z := Z) s (by simpa [Builtin.min_] using hZ) hR⟩
end
end Go.Proofs.YtpfmfpakbfkfoaaGreatDoor.Am

namespace Go.Proofs.YtpfmfpakbfkfoaaGreatDoor.Am
variable [Lay]
set_option linter.unusedSectionVars false
set_option linter.unusedVariables false
open Go Go.RowKit

section
variable {P : Program}

/-- no function of the program is the one that the model takes by itself -/
def NamesOk (P : Program) : Prop := ∀ (f : FuncId) (fn : Func), P.funcs[f]? = some fn → (fn.name == "runtime.NumGoroutine") = false

theorem run_callFunc (hN : NamesOk P) {f : FuncId} {fn : Func} (hf : P.funcs[f]? = some fn) (hb : fn.body.isSome = true) (args : Array Value) (w : World) : (callFunc f args).run P w = .ok (.enter f args) w := by
  have hb' : fn.body.isNone = false := by cases h : fn.body with | none => rw [h] at hb; cases hb | some c => rfl
  simp only [callFunc, Sem.run_bind, run_program, Result.andThen_ok, hf]
  rw [if_neg (by rw [hN f fn hf]; simp)]
  simp [hb']

theorem mapToList {α β : Type} (f : α → β) (a : Array α) : a.map f = (a.toList.map f).toArray := by
  apply Array.ext'
  simp

theorem parts_array (ρ : Operand → Value) (ps : Array (Nat × Operand)) : (ps.map fun (i, x) => (i, ρ x)) = (ps.toList.map fun (i, x) => (i, ρ x)).toArray := by
  apply Array.ext'
  simp

theorem assertV_sound {E : Env} {t xt : TypeId} {ti : TI} {ok : Bool} {x v : V} {X : Value} (ht : tiOf P t = some ti) (hb : Nat.beq (nilKindD ti.und) 5 = false) (hx : Rel E x X)
    (he : assertV t ti.zero ok x = some v) (w : World) : ∃ Z, (Instr.typeAssert X xt t ok).run P w = .ok Z w ∧ Rel E v Z := by
  have hu := run_und ht w
  have hni : ∀ ms, ti.und ≠ .interface ms := fun ms e => by rw [e] at hb; simp [nilKindD] at hb
  have zero : ∀ z, ti.zero = some z → ∃ x, (zeroValue t).run P w = .ok x w ∧ Rel E z x := fun z hz => by
    obtain ⟨x, h1, h2, _⟩ := run_zero (P := P) ht hz E w
    exact ⟨x, h1, h2⟩
  unfold assertV at he
  cases x <;> simp only at he <;> try (cases he; done)
  case iface u y =>
    simp only [Rel] at hx
    obtain ⟨Y, rfl, hY⟩ := hx
    rw [cond_beq] at he
    by_cases hut : u = t
    · rw [if_pos hut] at he
      simp only [Option.some.injEq] at he
      subst hut
      cases ok with
      | true =>
        simp only [cond_true] at he
        subst he
        refine ⟨.tuple #[Y, .bool true], ?_, by simp only [Rel, RelL]; exact ⟨_, rfl, _, _, rfl, hY, _, _, rfl, rfl, rfl⟩⟩
        simp only [Instr.typeAssert, Sem.run_bind, hu, Result.andThen_ok]
        cases hund : ti.und <;> first
          | exact absurd hund (hni _)
          | (simp only [if_true]; rfl)
      | false =>
        simp only [cond_false] at he
        subst he
        refine ⟨Y, ?_, hY⟩
        simp only [Instr.typeAssert, Sem.run_bind, hu, Result.andThen_ok]
        cases hund : ti.und <;> first
          | exact absurd hund (hni _)
          | (simp only [if_true]; rfl)
    · rw [if_neg hut] at he
      cases ok with
      | false => cases he
      | true =>
        simp only [cond_true] at he
        cases hz : ti.zero with
        | none => rw [hz] at he; cases he
        | some z =>
          rw [hz] at he
          simp only [Option.some.injEq] at he
          subst he
          obtain ⟨x0, z1, z2⟩ := zero z hz
          refine ⟨.tuple #[x0, .bool false], ?_, by simp only [Rel, RelL]; exact ⟨_, rfl, _, _, rfl, z2, _, _, rfl, rfl, rfl⟩⟩
          simp only [Instr.typeAssert, Sem.run_bind, hu, Result.andThen_ok]
          cases hund : ti.und <;> first
            | exact absurd hund (hni _)
            | (simp only [if_neg hut, if_true, Sem.run_bind, z1, Result.andThen_ok]; rfl)
  case nilIface =>
    simp only [Rel] at hx
    subst hx
    cases ok with
    | false => cases he
    | true =>
      simp only [cond_true] at he
      cases hz : ti.zero with
      | none => rw [hz] at he; cases he
      | some z =>
        rw [hz] at he
        simp only [Option.some.injEq] at he
        subst he
        obtain ⟨x0, z1, z2⟩ := zero z hz
        refine ⟨.tuple #[x0, .bool false], ?_, by simp only [Rel, RelL]; exact ⟨_, rfl, _, _, rfl, z2, _, _, rfl, rfl, rfl⟩⟩
        simp only [Instr.typeAssert, Sem.run_bind, hu, Result.andThen_ok]
        cases hund : ti.und <;> first
          | exact absurd hund (hni _)
          | (simp only [if_true, Sem.run_bind, z1, Result.andThen_ok]; rfl)

/-- what a function value's call needs: that the function has a body -/
def CallBody (P : Program) (call : CallF) : Prop := ∀ f args h v h', call f args h = .val v h' → True

set_option maxHeartbeats 2000000 in
theorem cop_sound {rd : Option Nat} {w0 : Fr} {E : Env} {h h' : Heap} {w : World} {call : CallF} (hN : NamesOk P) (hcall : CallOk P call) (hbody : CallBody P call) {o : Oper} {nt : Nat} {r : Regs} {a : Act} {v : V}
    (he : (cop P o).run call r h = .val v h') (k : RegRel0 E nt r a) (s : Sim w0 E h w) {K : Act → World → Prop} {Q : Exit → Act → World → Prop}
    (hK : ∀ E' x w', E.le E' → Rel E' v x → Sim w0 E' h' w' → K (a.put o.dst x) w') : o.wpIn (Wd rd) 0 P a w K Q := by
  obtain ⟨dst, op, type, pos, after, guard⟩ := o
  cases op <;> simp only [cop] at he <;> try (simp [OpC.none] at he; done)
  case move x =>
    simp only [OR.val.injEq] at he; obtain ⟨rfl, rfl⟩ := he
    exact wp_gives (m := pure (a.eval x)) rfl (Gives.plain s rfl (evC_sound k x)) hK
  case assign x =>
    simp only [OR.val.injEq] at he; obtain ⟨rfl, rfl⟩ := he
    exact wp_gives (m := pure (a.eval x)) rfl (Gives.plain s rfl (evC_sound k x)) hK
  case pick c x y =>
    have hc := evC_sound k c
    generalize (evC c).run r = vc at he hc
    cases vc <;> simp only at he <;> try (cases he; done)
    rename_i t
    simp only [OR.val.injEq] at he; obtain ⟨rfl, rfl⟩ := he
    simp only [Rel] at hc
    refine wp_gives (m := do pure (if ← asBool (a.eval c) then a.eval x else a.eval y)) (by simp only [execOp, bind_assoc, pure_bind]) (Gives.plain (Z := if t then a.eval x else a.eval y) s ?_ ?_) hK
    · rw [hc]; rfl
    · cases t
      · exact evC_sound k y
      · exact evC_sound k x
  case alloc t =>
    cases ht : tiOf P t with
    | none => rw [ht] at he; simp [OpC.none] at he
    | some ti =>
      rw [ht] at he
      simp only at he
      cases hz : ti.zero with
      | none => rw [hz] at he; simp [OpC.none] at he
      | some z =>
        rw [hz] at he
        simp only at he
        cases hn : newCells h z.cells with
        | none => rw [hn] at he; cases he
        | some h1 =>
          rw [hn] at he
          simp only [orHeap, OR.val.injEq] at he; obtain ⟨rfl, rfl⟩ := he
          obtain ⟨x, hx, hxr, _⟩ := zero_cells (P := P) (E := E) ht hz w
          obtain ⟨E', g1, g2, g3, g4⟩ := newCells_sound (P := P) s hxr hn t
          have g3' : (newRow t x.cells).run P w = .ok ⟨w.heap.size, 0, none⟩ { w with heap := w.heap.push (.cells x.cells t) } := by simpa using g3
          have g4' : Sim w0 E' h1 { w with heap := w.heap.push (.cells x.cells t) } := by simpa using g4
          exact wp_gives (m := Instr.alloc t true (.tuple #[])) rfl ⟨.pointer (some ⟨w.heap.size, 0, none⟩), _, E', by simp only [Instr.alloc, Sem.run_bind, hx, Result.andThen_ok, newVar, g3', Sem.run_pure], g1, by simp only [Rel]; exact ⟨_, g2, by simp⟩, g4'⟩ hK
  case box t x =>
    obtain ⟨hg, he⟩ := cond_val he
    cases hn : newCells h ((evC x).run r).cells with
    | none => rw [hn] at he; cases he
    | some h1 =>
      rw [hn] at he
      simp only [orHeap, OR.val.injEq] at he; obtain ⟨rfl, rfl⟩ := he
      have hl := (evC_sound k x).cells (fun e => by rw [e] at hg; cases hg)
      obtain ⟨E', g1, g2, g3, g4⟩ := newCells_sound (P := P) s hl hn t
      have g3' : (newRow t (a.eval x).cells).run P w = .ok ⟨w.heap.size, 0, none⟩ { w with heap := w.heap.push (.cells (a.eval x).cells t) } := by simpa using g3
      have g4' : Sim w0 E' h1 { w with heap := w.heap.push (.cells (a.eval x).cells t) } := by simpa using g4
      exact wp_gives (m := Instr.box t (a.eval x)) rfl ⟨.pointer (some ⟨w.heap.size, 0, none⟩), _, E', by simp only [Instr.box, Sem.run_bind, newVar, g3', Result.andThen_ok, Sem.run_pure], g1, by simp only [Rel]; exact ⟨_, g2, by simp⟩, g4'⟩ hK
  case build t ps =>
    obtain ⟨he2, rfl⟩ := OR.of_val he
    clear he
    obtain ⟨Z, hZ, hR⟩ := buildC_sound (P := P) (partsC_sound k ps.toList) he2 w
    refine wp_gives (m := Instr.build t (ps.map fun (i, x) => (i, a.eval x))) rfl (Gives.plain (Z := Z) s ?_ hR) hK
    rw [parts_array]; exact hZ
  case buildSlice t n ps =>
    refine wp_gives (m := Instr.buildSlice t n (ps.map fun (i, x) => (i, a.eval x))) rfl ?_ hK
    rw [parts_array]
    exact buildSliceC_sound s (partsC_sound k ps.toList) he
  case load t x =>
    obtain ⟨he2, rfl⟩ := OR.of_val he
    clear he
    obtain ⟨Y, hY, hR, _⟩ := loadC_sound (P := P) s (evC_sound k x) he2
    exact wp_gives (m := Instr.loadAt t (a.eval x)) rfl (Gives.plain s hY hR) hK
  case store t x y =>
    cases hst : (storeC P t).run h ((evC x).run r) ((evC y).run r) with
    | none => rw [hst] at he; cases he
    | some h1 =>
      rw [hst] at he
      simp only [orHeap, OR.val.injEq] at he; obtain ⟨rfl, rfl⟩ := he
      obtain ⟨w', hrun, hs'⟩ := storeC_sound (P := P) s (evC_sound k x) (evC_sound k y) hst
      refine ⟨fun _ _ => trivial, ?_⟩
      rw [semAt_wd (by intro c h; cases h)]
      have : execOp a.eval ⟨dst, .store t x y, type, pos, after, guard⟩ = (do Instr.storeAt t (a.eval x) (a.eval y); pure .skip) := rfl
      rw [this, Sem.run_bind, hrun]
      exact hK E undef w' (Env.le.refl E) (by simp [Rel]) hs'
  case nilCheck x =>
    obtain ⟨he2, rfl⟩ := OR.of_val he
    clear he
    have hx := evC_sound k x
    generalize (evC x).run r = vx at he2 hx
    have hgo : ∀ X, Rel E vx X → (match X with
        | .pointer none | .nilIface | .nilFunc => (runtimePanic .nilDeref : Sem Next)
        | .func (.method name) first captured =>
          match (first[0]? : Option Value) with
          | some .nilIface => runtimePanic .nilDeref
          | some (.iface t w) => do
            if (← nilAhead ((← program).types.size + Made.depth) t w name) != some false then
              unsupported (.noEntry "op/nilCheck.the method's receiver behind this interface value is a nil pointer, or cannot be seen to be none, and the arguments act or may panic (ledger 612)")
            pure (.value (.func (.method name) first captured))
          | _ => pure (.value (.func (.method name) first captured))
        | x => pure (.value x)) = pure (.value X) ∧ v = vx := by
      intro X hX
      cases vx <;> simp only [nilCheckV] at he2 <;> try (cases he2; done)
      all_goals simp only [Option.some.injEq] at he2
      all_goals simp only [Rel] at hX
      · obtain ⟨p, _, rfl⟩ := hX; exact ⟨rfl, he2.symm⟩
      · rcases hX with ⟨_, _, rfl, _⟩ | ⟨_, _, _, _, _, rfl⟩ <;> exact ⟨rfl, he2.symm⟩
      · obtain ⟨p, rfl, _⟩ := hX; exact ⟨rfl, he2.symm⟩
      · obtain ⟨_, p, rfl, _⟩ := hX; exact ⟨rfl, he2.symm⟩
    obtain ⟨h1, rfl⟩ := hgo _ hx
    exact wp_gives (m := pure (a.eval x)) (by simp only [execOp]; rw [pure_bind]; exact h1) (Gives.plain s rfl hx) hK
  case binOp op t x y u =>
    obtain ⟨he2, rfl⟩ := OR.of_val he
    clear he
    obtain ⟨Z, hZ, hR⟩ := binL_sound (P := P) (ox := x) (oy := y) he2 (evC_sound k x) (evC_sound k y) w
    exact wp_gives rfl (Gives.plain s hZ hR) hK
  case unOp op t x =>
    obtain ⟨he2, rfl⟩ := OR.of_val he
    clear he
    obtain ⟨Z, hZ, hR⟩ := unV_sound (P := P) he2 (evC_sound k x) w
    exact wp_gives (m := Op.unary op (a.eval x)) rfl (Gives.plain s hZ hR) hK
  case convert t u x => exact wp_gives (m := convert t u (a.eval x)) rfl (convC_sound s he (evC_sound k x)) hK
  case makeInterface t x =>
    cases ht : tiOf P t with
    | none => rw [ht] at he; simp [OpC.none] at he
    | some ti =>
      rw [ht] at he
      simp only at he
      cases hb : Nat.beq (nilKindD ti.und) 5 with
      | true => rw [hb] at he; simp [OpC.none] at he
      | false =>
        rw [hb] at he
        simp only [cond_false, OR.val.injEq] at he; obtain ⟨rfl, rfl⟩ := he
        refine wp_gives (m := Instr.makeInterface t (a.eval x)) rfl (Gives.plain (Z := .iface t (a.eval x)) s ?_ ?_) hK
        · have hu := run_und ht w
          simp only [Instr.makeInterface, Sem.run_bind, hu, Result.andThen_ok]
          cases hund : ti.und <;> first
            | rfl
            | (rw [hund] at hb; simp [nilKindD] at hb)
        · simp only [Rel]; exact ⟨_, rfl, evC_sound k x⟩
  case makeFunc fn first caps =>
    cases fn <;> simp only at he <;> try (simp [OpC.none] at he; done)
    rename_i f
    cases hf : (first.isEmpty && !Nat.beq f yieldId) with
    | false =>
      rw [hf] at he
      simp only [cond_false] at he
      cases hf2 : (caps.isEmpty && !Nat.beq f yieldId) with
      | false => rw [hf2] at he; simp [OpC.none] at he
      | true =>
        rw [hf2] at he
        simp only [cond_true, OR.val.injEq] at he; obtain ⟨rfl, rfl⟩ := he
        simp only [Bool.and_eq_true, Bool.not_eq_true'] at hf2
        have hfy : f ≠ yieldId := fun e => by rw [e] at hf2; exact absurd hf2.2 (by decide)
        have hfe : caps = #[] := by simpa using hf2.1
        subst hfe
        refine wp_gives (m := Instr.makeFunc (.func f) (first.map a.eval) #[]) (by simp [execOp]) (Gives.plain s rfl ?_) hK
        simp only [Rel]
        exact ⟨hfy, _, rfl, by rw [mapToList]; simpa using evsC_sound k first.toList⟩
    | true =>
      rw [hf] at he
      simp only [cond_true, OR.val.injEq] at he; obtain ⟨rfl, rfl⟩ := he
      simp only [Bool.and_eq_true, Bool.not_eq_true'] at hf
      have hfy : f ≠ yieldId := fun e => by rw [e] at hf; exact absurd hf.2 (by decide)
      have hfe : first = #[] := by simpa using hf.1
      subst hfe
      refine wp_gives (m := Instr.makeFunc (.func f) #[] (caps.map a.eval)) (by simp [execOp]) (Gives.plain s rfl ?_) hK
      simp only [Rel]
      exact .inl ⟨hfy, _, rfl, by rw [mapToList]; simpa using evsC_sound k caps.toList⟩
  case makeSlice t l c => exact wp_gives (m := Instr.makeSlice t (a.eval l) (a.eval c)) rfl (makeSliceC_sound s (evC_sound k l) (evC_sound k c) he) hK
  case slice t x lo hi mx =>
    obtain ⟨he2, rfl⟩ := OR.of_val he
    clear he
    obtain ⟨Z, hZ, hR⟩ := sliceC_sound (P := P) he2 (evC_sound k x) (optC_sound k lo) (optC_sound k hi) (optC_sound k mx) w
    exact wp_gives (m := Instr.sliceAt t (a.eval x) (lo.map a.eval) (hi.map a.eval) (mx.map a.eval)) rfl (Gives.plain s hZ hR) hK
  case fieldAddr t x i =>
    obtain ⟨he2, rfl⟩ := OR.of_val he
    clear he
    obtain ⟨Z, hZ, hR⟩ := fieldAddrC_sound (P := P) he2 (evC_sound k x) w
    exact wp_gives (m := Instr.fieldAt t (a.eval x) i) rfl (Gives.plain s hZ hR) hK
  case field t x i =>
    obtain ⟨he2, rfl⟩ := OR.of_val he
    clear he
    obtain ⟨Z, hZ, hR⟩ := fieldC_sound (P := P) he2 (evC_sound k x) w
    exact wp_gives (m := Instr.field t (a.eval x) i) rfl (Gives.plain s hZ hR) hK
  case indexAddr t x i =>
    obtain ⟨he2, rfl⟩ := OR.of_val he
    clear he
    obtain ⟨Z, hZ, hR⟩ := indexAddrC_sound (P := P) he2 (evC_sound k x) (evC_sound k i) w
    exact wp_gives (m := Instr.indexAt t (a.eval x) (a.eval i)) rfl (Gives.plain s hZ hR) hK
  case index t x i =>
    obtain ⟨he2, rfl⟩ := OR.of_val he
    clear he
    obtain ⟨Z, hZ, hR⟩ := indexC_sound (P := P) he2 (evC_sound k x) (evC_sound k i) w
    exact wp_gives (m := Instr.index t (a.eval x) (a.eval i)) rfl (Gives.plain s hZ hR) hK
  case range t x => exact wp_gives (m := Instr.range t (a.eval x)) rfl (rangeC_sound s (evC_sound k x) he) hK
  case next it isS =>
    cases isS with
    | true => exact wp_gives (m := Instr.next (a.eval it) true type) rfl (nextV_sound s (evC_sound k it) he) hK
    | false => exact wp_gives (m := Instr.next (a.eval it) false type) rfl (nextM_sound s (evC_sound k it) he) hK
  case entry it => exact wp_gives (m := Instr.entry (a.eval it)) rfl (entryV_sound s (evC_sound k it) he) hK
  case lookup t x y ok =>
    obtain ⟨he2, rfl⟩ := OR.of_val he
    clear he
    obtain ⟨Z, hZ, hR⟩ := lookupC_sound (P := P) s (evC_sound k x) (evC_sound k y) he2
    exact wp_gives (m := Instr.lookup t (a.eval x) (a.eval y) ok) rfl (Gives.plain s hZ hR) hK
  case mapEntry t m y => exact wp_gives (m := Instr.mapEntry t (a.eval m) (a.eval y)) rfl (mapEntryC_sound s (evC_sound k m) (evC_sound k y) he) hK
  case entryStore t m st x =>
    cases hst : entryStoreV h ((evC m).run r) ((evC st).run r) ((evC x).run r) with
    | none => rw [hst] at he; cases he
    | some h1 =>
      rw [hst] at he
      simp only [orHeap, OR.val.injEq] at he; obtain ⟨rfl, rfl⟩ := he
      obtain ⟨w', hrun, hs'⟩ := entryStore_sound (P := P) (t := t) s (evC_sound k m) (evC_sound k st) (evC_sound k x) hst
      refine ⟨fun _ _ => trivial, ?_⟩
      rw [semAt_wd (by intro c h; cases h)]
      have : execOp a.eval ⟨dst, .entryStore t m st x, type, pos, after, guard⟩ = (do Instr.entryStore t (a.eval m) (a.eval st) (a.eval x); pure .skip) := rfl
      rw [this, Sem.run_bind, hrun]
      exact hK E undef w' (Env.le.refl E) (by simp [Rel]) hs'
  case mapUpdate t m y x =>
    cases hst : (updC P t).run h ((evC m).run r) ((evC y).run r) ((evC x).run r) with
    | none => rw [hst] at he; cases he
    | some h1 =>
      rw [hst] at he
      simp only [orHeap, OR.val.injEq] at he; obtain ⟨rfl, rfl⟩ := he
      obtain ⟨w', hrun, hs'⟩ := updC_sound (P := P) s (evC_sound k m) (evC_sound k y) (evC_sound k x) hst
      refine ⟨fun _ _ => trivial, ?_⟩
      rw [semAt_wd (by intro c h; cases h)]
      have : execOp a.eval ⟨dst, .mapUpdate t m y x, type, pos, after, guard⟩ = (do Instr.mapUpdate t (a.eval m) (a.eval y) (a.eval x); pure .skip) := rfl
      rw [this, Sem.run_bind, hrun]
      exact hK E undef w' (Env.le.refl E) (by simp [Rel]) hs'
  case insert t m y x =>
    cases hst : (updC P t).run h ((evC m).run r) ((evC y).run r) ((evC x).run r) with
    | none => rw [hst] at he; cases he
    | some h1 =>
      rw [hst] at he
      simp only [orHeap, OR.val.injEq] at he; obtain ⟨rfl, rfl⟩ := he
      obtain ⟨w', hrun, hs'⟩ := updC_sound (P := P) s (evC_sound k m) (evC_sound k y) (evC_sound k x) hst
      refine ⟨fun _ _ => trivial, ?_⟩
      rw [semAt_wd (by intro c h; cases h)]
      have : execOp a.eval ⟨dst, .insert t m y x, type, pos, after, guard⟩ = (do Instr.mapUpdate t (a.eval m) (a.eval y) (a.eval x); pure .skip) := rfl
      rw [this, Sem.run_bind, hrun]
      exact hK E undef w' (Env.le.refl E) (by simp [Rel]) hs'
  case makeMap t x => exact wp_gives (m := Instr.makeMap t (x.map a.eval)) rfl (makeMapC_sound s (optC_sound k x) he) hK
  case panic x =>
    exfalso
    unfold panV at he
    split at he <;> cases he
  case typeAssert x xt t ok =>
    cases ht : tiOf P t with
    | none => rw [ht] at he; simp [OpC.none] at he
    | some ti =>
      rw [ht] at he
      simp only at he
      cases hb : Nat.beq (nilKindD ti.und) 5 with
      | true => rw [hb] at he; simp [OpC.none] at he
      | false =>
        rw [hb] at he
        simp only [cond_false] at he
        obtain ⟨he2, rfl⟩ := OR.of_val he
        clear he
        obtain ⟨Z, hZ, hR⟩ := assertV_sound ht hb (xt := xt) (evC_sound k x) he2 w
        exact wp_gives (m := Instr.typeAssert (a.eval x) xt t ok) rfl (Gives.plain s hZ hR) hK
  case extract x i =>
    have hx := evC_sound k x
    generalize (evC x).run r = vx at he hx
    cases vx <;> simp only at he <;> try (cases he; done)
    obtain ⟨he2, rfl⟩ := OR.of_val he
    clear he
    simp only [Rel] at hx
    obtain ⟨arr, hX, hl⟩ := hx
    obtain ⟨y, hy, hR⟩ := hl.get i v he2
    refine wp_gives (m := Instr.extract (a.eval x) i) rfl (Gives.plain (Z := y) s ?_ hR) hK
    rw [hX]
    have : arr[i]? = some y := by simpa using hy
    simp only [Instr.extract, this, Sem.run_pure]
  case call c =>
    obtain ⟨callee, args, types⟩ := c
    cases callee with
    | invoke _ _ => simp [callC, OpC.none] at he
    | builtin b =>
      simp only [callC] at he
      obtain ⟨cs, hcs⟩ : ∃ cs, execOp a.eval ⟨dst, .call ⟨.builtin b, args, types⟩, type, pos, after, guard⟩ = Go.builtin b types type cs (args.map a.eval) := by
        simp only [execOp, resolve, pure_bind, invoke]
        exact ⟨_, rfl⟩
      obtain ⟨m, hm, hg⟩ := builtC_sound (P := P) (ty := type) (cs := cs) s (evsC_sound k args.toList) he
      refine wp_gives (m := m) ?_ hg hK
      rw [hcs, ← hm, mapToList]
    | value f =>
      simp only [callC] at he
      have hf := evC_sound k f
      generalize hvf : (evC f).run r = vf at he hf
      cases vf <;> simp only [V.onFunc] at he <;> try (cases he; done)
      rotate_left
      · rename_i g cs
        simp only [Rel] at hf
        refine ⟨fun _ _ => trivial, ?_⟩
        rw [semAt_wd (by intro c h; cases h)]
        obtain ⟨hg, first, hX, hl⟩ := hf
        have hargs := RelL.append hl (evsC_sound k args.toList)
        have hcc := hcall.fn _ _ _ _ _ _ hg he E w _ hargs s
        have hex : execOp a.eval ⟨dst, .call ⟨.value f, args, types⟩, type, pos, after, guard⟩ = callFunc g (first ++ args.map a.eval) := by
          simp only [execOp, resolve, hX, Deferred.ofValue, pure_bind, invoke]
          simp
        have e : first ++ args.map a.eval = (first.toList ++ args.toList.map a.eval).toArray := by
          apply Array.ext'; simp
        rw [hex, e]
        rcases hcc with ⟨⟨fn, hfn, hb⟩, hc⟩ | ⟨E', x, w', hr, q1, q2, q3⟩
        case inr =>
          rw [hr]
          exact hK E' x w' q1 q2 q3
        rw [run_callFunc hN hfn hb]
        refine ⟨fun h => by simp at h, callsIn_wd.2 (hc.mono fun e w' hq => ?_)⟩
        obtain ⟨E', x, rfl, q1, q2, q3⟩ := hq
        exact hK E' x w' q1 q2 q3
      rename_i g cs
      simp only [Rel] at hf
      refine ⟨fun _ _ => trivial, ?_⟩
      rw [semAt_wd (by intro c h; cases h)]
      rcases hf with ⟨hg, caps, hX, hl⟩ | ⟨hg, b, p, hcs, hp, hX⟩
      · have hargs := (evsC_sound k args.toList).append hl
        have hcc := hcall.fn _ _ _ _ _ _ hg he E w _ hargs s
        have hex : execOp a.eval ⟨dst, .call ⟨.value f, args, types⟩, type, pos, after, guard⟩ = callFunc g (args.map a.eval ++ caps) := by
          simp only [execOp, resolve, hX, Deferred.ofValue, pure_bind, invoke]
          simp
        have e : args.map a.eval ++ caps = (args.toList.map a.eval ++ caps.toList).toArray := by
          apply Array.ext'; simp
        rw [hex, e]
        rcases hcc with ⟨⟨fn, hfn, hb⟩, hc⟩ | ⟨E', x, w', hr, q1, q2, q3⟩
        case inr =>
          rw [hr]
          exact hK E' x w' q1 q2 q3
        rw [run_callFunc hN hfn hb]
        refine ⟨fun h => by simp at h, callsIn_wd.2 (hc.mono fun e w' hq => ?_)⟩
        obtain ⟨E', x, rfl, q1, q2, q3⟩ := hq
        exact hK E' x w' q1 q2 q3
      · subst hg hcs
        obtain ⟨f', tmps, assign, body, q1, q2⟩ := hcall.yl _ _ _ _ _ _ he E w _ p (evsC_sound k args.toList) s hp
        have hex : execOp a.eval ⟨dst, .call ⟨.value f, args, types⟩, type, pos, after, guard⟩ = Instr.yield p.blk (args.map a.eval) := by
          simp only [execOp, resolve, hX, Deferred.ofValue, pure_bind, invoke]
          simp
        have e : args.map a.eval = (args.toList.map a.eval).toArray := by
          apply Array.ext'; simp
        rw [hex, e, q1]
        refine ⟨fun h => by simp at h, RoundIn.mono q2 fun e w' hq => ?_⟩
        obtain ⟨E', x, rfl, r1, r2, r3⟩ := hq
        exact hK E' x w' r1 r2 r3
end
end Go.Proofs.YtpfmfpakbfkfoaaGreatDoor.Am

namespace Go.Proofs.YtpfmfpakbfkfoaaGreatDoor.Am
variable [Lay]
set_option linter.unusedSectionVars false
open Go Go.RowKit

section
variable {P : Program}

/-- what a guard says -/
theorem guard_sound {E : Env} {nt : Nat} {r : Regs} {a : Act} (k : RegRel0 E nt r a) {all : Array Oper} {j : Nat} {g : Oper} {d : Nat} (hj : all[j]? = some g) (hd : g.dst = some d) (hdn : d < nt) (hdt : d ≤ top) :
    (∀ b, T.get .bad (pa d) r = .bool b → yielded all a.tmps j = some b) ∧ (∀ vs, T.get .bad (pa d) r = .tuple vs → yielded all a.tmps j = none) := by
  have hr := k.reg d hdt
  have hlt : d < a.tmps.size := by rw [k.size]; exact hdn
  have he : a.tmps[d]? = some (a.tmps.getD d undef) := by simp [Array.getD_eq_getD_getElem?, hlt]
  refine ⟨fun b hb => ?_, fun vs hb => ?_⟩
  · rw [hb] at hr
    simp only [Rel] at hr
    simp only [yielded, hj, Option.bind, hd, he, hr]
  · rw [hb] at hr
    simp only [Rel] at hr
    obtain ⟨arr, hr, _⟩ := hr
    simp only [yielded, hj, Option.bind, hd, he, hr]

/-- a call or a panic that ends in a panic -/
theorem cop_pan {rd : Option Nat} {w0 : Fr} {E : Env} {h h' : Heap} {w : World} {call : CallF} (hN : NamesOk P) (hcall : CallOk P call) {o : Oper} {nt : Nat} {r : Regs} {a : Act} {v : V} (hm : mayPan o.op = true)
    (he : (cop P o).run call r h = .pan v h') (k : RegRel0 E nt r a) (s : Sim w0 E h w) {K : Act → World → Prop} {Q : Exit → Act → World → Prop}
    (hQ : ∀ E' x w', E.le E' → Rel E' v x → Sim w0 E' h' w' → Q (.panic (panic1 x)) a w') : o.wpIn (Wd rd) 0 P a w K Q := by
  obtain ⟨dst, op, type, pos, after, guard⟩ := o
  cases op <;> simp only [mayPan] at hm <;> try (cases hm; done)
  all_goals simp only [cop] at he
  case panic x =>
    have hx := evC_sound k x
    generalize (evC x).run r = vx at he hx
    unfold panV at he
    cases vx <;> simp only at he <;> try (cases he; done)
    simp only [OR.pan.injEq] at he
    obtain ⟨rfl, rfl⟩ := he
    have hx0 := hx
    simp only [Rel] at hx
    obtain ⟨Y, hX, hY⟩ := hx
    refine ⟨fun _ _ => trivial, ?_⟩
    rw [semAt_wd (by intro c h; cases h)]
    have hex : (execOp a.eval ⟨dst, .panic x, type, pos, after, guard⟩).run P w = .halt (.panic (a.eval x)) w := by
      simp only [execOp, hX, Instr.panic, Sem.run_bind]
      rfl
    rw [hex]
    exact hQ E _ w (Env.le.refl E) hx0 s
  case call c =>
    obtain ⟨callee, args, types⟩ := c
    cases callee <;> simp only at hm <;> try (cases hm; done)
    rename_i f
    simp only [callC] at he
    have hf := evC_sound k f
    generalize hvf : (evC f).run r = vf at he hf
    cases vf <;> simp only [V.onFunc] at he <;> try (cases he; done)
    rotate_left
    · rename_i g cs
      simp only [Rel] at hf
      refine ⟨fun _ _ => trivial, ?_⟩
      rw [semAt_wd (by intro c h; cases h)]
      obtain ⟨hg, first, hX, hl⟩ := hf
      have hargs := RelL.append hl (evsC_sound k args.toList)
      obtain ⟨⟨fn, hfn, hb⟩, hc⟩ := hcall.pan _ _ _ _ _ _ hg he E w _ hargs s
      have hex : execOp a.eval ⟨dst, .call ⟨.value f, args, types⟩, type, pos, after, guard⟩ = callFunc g (first ++ args.map a.eval) := by
        simp only [execOp, resolve, hX, Deferred.ofValue, pure_bind, invoke]
        simp
      have e : first ++ args.map a.eval = (first.toList ++ args.toList.map a.eval).toArray := by
        apply Array.ext'; simp
      rw [hex, e, run_callFunc hN hfn hb]
      refine ⟨fun h => by simp at h, callsIn_wd.2 (hc.mono fun e w' hq => ?_)⟩
      obtain ⟨E', x, rfl, q1, q2, q3⟩ := hq
      exact hQ E' x w' q1 q2 q3
    rename_i g cs
    simp only [Rel] at hf
    refine ⟨fun _ _ => trivial, ?_⟩
    rw [semAt_wd (by intro c h; cases h)]
    rcases hf with ⟨hg, caps, hX, hl⟩ | ⟨hg, b, p, hcs, hp, hX⟩
    · have hargs := (evsC_sound k args.toList).append hl
      obtain ⟨⟨fn, hfn, hb⟩, hc⟩ := hcall.pan _ _ _ _ _ _ hg he E w _ hargs s
      have hex : execOp a.eval ⟨dst, .call ⟨.value f, args, types⟩, type, pos, after, guard⟩ = callFunc g (args.map a.eval ++ caps) := by
        simp only [execOp, resolve, hX, Deferred.ofValue, pure_bind, invoke]
        simp
      have e : args.map a.eval ++ caps = (args.toList.map a.eval ++ caps.toList).toArray := by
        apply Array.ext'; simp
      rw [hex, e, run_callFunc hN hfn hb]
      refine ⟨fun h => by simp at h, callsIn_wd.2 (hc.mono fun e w' hq => ?_)⟩
      obtain ⟨E', x, rfl, q1, q2, q3⟩ := hq
      exact hQ E' x w' q1 q2 q3
    · subst hg
      exact absurd he (hcall.yp _ _ _ _)

/-- what a region's run tells -/
def PostR (w0 : Fr) (E : Env) (nt : Nat) (K : Act → World → Prop) (Q : Exit → Act → World → Prop) : RR → Prop
  | .ok r h => ∀ E' a' w', E.le E' → RegRel E' nt r a' → Sim w0 E' h w' → K a' w'
  | .pan v r h => ∀ E' a' w' x, E.le E' → RegRel E' nt r a' → Rel E' v x → Sim w0 E' h w' → Q (.panic (panic1 x)) a' w'
  | .fail => False

theorem PostR.up {w0 : Fr} {E E' : Env} (h : E.le E') {nt : Nat} {K : Act → World → Prop} {Q : Exit → Act → World → Prop} {x : RR} (k : PostR w0 E nt K Q x) : PostR w0 E' nt K Q x := by
  cases x with
  | ok r hh => exact fun E2 a w h2 => k E2 a w (h.trans h2)
  | pan v r hh => exact fun E2 a w x h2 => k E2 a w x (h.trans h2)
  | fail => exact k

theorem operRun_sound {rd : Option Nat} {w0 : Fr} {E : Env} {h : Heap} {w : World} {call : CallF} (hN : NamesOk P) (hcall : CallOk P call) (hbody : CallBody P call) {all : Array Oper} {i : Nat} {o : Oper} (hi : all[i]? = some o) {nt : Nat} {r : Regs} {a : Act}
    (hd : dstFine nt o.dst = true) (k : RegRel E nt r a) (s : Sim w0 E h w) {K : Act → World → Prop} {Q : Exit → Act → World → Prop} (hw : Region.wanted o (yielded all a.tmps) = true)
    (hp : PostR w0 E nt K Q (operRun (mayPan o.op) (cop P o) (putC o.dst) call r h)) : wpOpIn (Wd rd) 0 P all Q i K a w := by
  simp only [wpOpIn, hi, hw, if_true]
  unfold operRun at hp
  cases ho : (cop P o).run call r h with
  | fail => rw [ho] at hp; exact hp.elim
  | val v h1 =>
    rw [ho] at hp
    exact cop_sound hN hcall hbody ho k.toRegRel0 s fun E' x w' q1 q2 q3 => hp E' _ w' q1 ((k.mono q1).put hd q2) q3
  | pan v h1 =>
    rw [ho] at hp
    simp only at hp
    cases hm : mayPan o.op with
    | false => rw [hm] at hp; exact hp.elim
    | true =>
      rw [hm] at hp
      exact cop_pan hN hcall hm ho k.toRegRel0 s fun E' x w' q1 q2 q3 => hp E' a w' x q1 (k.mono q1) q2 q3

theorem unwanted_sound {rd : Option Nat} {w0 : Fr} {E : Env} {h : Heap} {w : World} {all : Array Oper} {i : Nat} {o : Oper} (hi : all[i]? = some o) {nt : Nat} {r : Regs} {a : Act}
    (hd : dstFine nt o.dst = true) (k : RegRel E nt r a) (s : Sim w0 E h w) {K : Act → World → Prop} {Q : Exit → Act → World → Prop} (hw : Region.wanted o (yielded all a.tmps) = false)
    (hp : PostR w0 E nt K Q (.ok ((putC o.dst).run r (.tuple [])) h)) : wpOpIn (Wd rd) 0 P all Q i K a w := by
  simp only [wpOpIn, hi, hw, Bool.false_eq_true, if_false]
  exact ⟨fun _ _ => trivial, hp E _ w (Env.le.refl E) (k.put hd (by simp only [Rel]; exact ⟨#[], rfl, rfl⟩)) s⟩

theorem operC0_sound {rd : Option Nat} {w0 : Fr} {E : Env} {h : Heap} {w : World} {call : CallF} (hN : NamesOk P) (hcall : CallOk P call) (hbody : CallBody P call) {all : Array Oper} {i : Nat} {o : Oper} (hi : all[i]? = some o) {nt : Nat} {r : Regs} {a : Act}
    (hd : dstFine nt o.dst = true) (k : RegRel E nt r a) (s : Sim w0 E h w) {K : Act → World → Prop} {Q : Exit → Act → World → Prop}
    (hp : PostR w0 E nt K Q ((operC0 P nt all o).run call r h)) : wpOpIn (Wd rd) 0 P all Q i K a w := by
  unfold operC0 at hp
  cases hg : o.guard with
  | none =>
    rw [hg] at hp
    exact operRun_sound hN hcall hbody hi hd k s (by simp [Region.wanted, hg]) hp
  | some jw =>
    obtain ⟨j, want⟩ := jw
    rw [hg] at hp
    simp only at hp
    cases hj : all[j]? with
    | none => rw [hj] at hp; exact hp.elim
    | some g =>
      rw [hj] at hp
      simp only at hp
      cases hgd : g.dst with
      | none => rw [hgd] at hp; exact hp.elim
      | some d =>
        rw [hgd] at hp
        simp only at hp
        cases hc : (Nat.blt d nt && Nat.ble d top) with
        | false => rw [hc] at hp; exact hp.elim
        | true =>
          rw [hc] at hp
          simp only [cond_true, guardRun, evTmp] at hp
          simp only [Bool.and_eq_true, Nat.blt_eq, Nat.ble_eq] at hc
          obtain ⟨g1, g2⟩ := guard_sound k.toRegRel0 hj hgd hc.1 hc.2
          cases hv : T.get .bad (pa d) r <;> rw [hv] at hp <;> simp only at hp <;> try (exact hp.elim)
          · rename_i b
            have hy := g1 b hv
            cases hb : (bif want then b else !b) with
            | true =>
              rw [hb] at hp
              simp only [cond_true] at hp
              refine operRun_sound hN hcall hbody hi hd k s ?_ hp
              simp only [Region.wanted, hg, hy]
              cases want <;> cases b <;> simp_all
            | false =>
              rw [hb] at hp
              simp only [cond_false] at hp
              refine unwanted_sound hi hd k s ?_ hp
              simp only [Region.wanted, hg, hy]
              cases want <;> cases b <;> simp_all
          · rename_i vs
            have hy := g2 vs hv
            refine unwanted_sound hi hd k s ?_ hp
            simp only [Region.wanted, hg, hy]
            rfl

theorem DRel.list {E : Env} {v : V} {ds : List Deferred} (k : DRel E v ds) : DRelL E v.list ds := by
  cases v <;> first
    | exact k

theorem operC_sound {rd : Option Nat} {w0 : Fr} {E : Env} {h : Heap} {w : World} {call : CallF} (hN : NamesOk P) (hcall : CallOk P call) (hbody : CallBody P call) {all : Array Oper} {i : Nat} {o : Oper} (hi : all[i]? = some o) {nt : Nat} {r : Regs} {a : Act}
    (hr : rd = none ∨ noDefer o = true) (k : RegRel E nt r a) (s : Sim w0 E h w) {K : Act → World → Prop} {Q : Exit → Act → World → Prop}
    (hp : PostR w0 E nt K Q ((operC P nt all o).run call r h)) : wpOpIn (Wd rd) 0 P all Q i K a w := by
  unfold operC at hp
  cases hd : dstFine nt o.dst with
  | false => rw [hd] at hp; exact hp.elim
  | true =>
    rw [hd] at hp
    simp only [cond_true] at hp
    obtain ⟨dst, op, type, pos, after, guard⟩ := o
    cases op with
    | defer c =>
      rcases hr with rfl | hr
      case inr => cases hr
      simp only at hp
      cases guard with
      | some _ => exact hp.elim
      | none =>
        simp only at hp
        obtain ⟨callee, args, types⟩ := c
        simp only [deferC] at hp
        cases callee <;> simp only at hp <;> try (exact hp.elim)
        rename_i f
        unfold deferRun at hp
        have hf := evC_sound k.toRegRel0 f
        generalize (evC f).run r = vf at hp hf
        cases vf <;> simp only at hp <;> try (exact hp.elim)
        rename_i g cs
        cases hy : Nat.beq g yieldId with
        | true => rw [hy] at hp; exact hp.elim
        | false =>
          rw [hy] at hp
          simp only [cond_false] at hp
          have hgy : g ≠ yieldId := fun e => by rw [e] at hy; exact absurd hy (by decide)
          simp only [Rel] at hf
          rcases hf with ⟨_, caps, hX, hl⟩ | ⟨hg, _⟩
          case inr => exact absurd hg hgy
          simp only [wpOpIn, hi, Region.wanted, if_true]
          refine ⟨fun _ _ => trivial, ?_⟩
          have hex : ((Oper.mk dst (.defer ⟨.value f, args, types⟩) type pos after none).semAt (Wd none).round a.eval).run P w = .ok (.defer { target := .fn (.func g) caps, args := #[] ++ args.map a.eval }) w := by
            simp only [Oper.semAt_none, execOp, resolve, hX, Deferred.ofValue, pure_bind]
            rfl
          rw [hex]
          refine hp E _ w (Env.le.refl E) (RegRel.put ?_ hd (by simp only [Rel]; exact ⟨#[], rfl, rfl⟩)) s
          refine ⟨⟨k.size, fun t ht => ?_⟩, ?_⟩
          rotate_left
          · rw [T.get_put, if_pos rfl]
            simp only [DRel, DRelL]
            refine ⟨_, _, rfl, ⟨hgy, caps, rfl, ?_⟩, k.defers.list⟩
            have := (evsC_sound k.toRegRel0 args.toList).append hl
            simpa using this
          · rw [T.get_put, if_neg (fun e => pa_dslot ht e.symm)]
            exact k.reg t ht
    | binOp op t x y u =>
      simp only at hp
      cases guard with
      | some g => exact operC0_sound hN hcall hbody hi hd k s hp
      | none =>
        simp only at hp
        cases hpo : ptrOp P op t with
        | none => rw [hpo] at hp; exact operC0_sound hN hcall hbody hi hd k s hp
        | some neg =>
          rw [hpo] at hp
          simp only [ptrRun] at hp
          cases hq : ptrEqH h ((evC x).run r) ((evC y).run r) with
          | none => rw [hq] at hp; exact operC0_sound hN hcall hbody hi hd k s hp
          | some b =>
            rw [hq] at hp
            simp only [wpOpIn, hi, Region.wanted, if_true]
            obtain ⟨Z, hZ, hR⟩ := ptrBin_sound (P := P) (ox := x) (oy := y) s hpo hq (evC_sound k.toRegRel0 x) (evC_sound k.toRegRel0 y)
            exact wp_gives rfl (Gives.plain s hZ hR) fun E' v w' q1 q2 q3 => hp E' _ w' q1 ((k.mono q1).put hd q2) q3
    | _ => exact operC0_sound hN hcall hbody hi hd k s hp

theorem opsC_sound {rd : Option Nat} {w0 : Fr} {call : CallF} (hN : NamesOk P) (hcall : CallOk P call) (hbody : CallBody P call) {all : Array Oper} {nt : Nat} {Q : Exit → Act → World → Prop} : ∀ (l : List Oper) (i : Nat), (∀ j, l[j]? = all[i + j]?) → (rd = none ∨ ∀ o ∈ l, noDefer o = true) →
    ∀ (E : Env) (r : Regs) (h : Heap) (a : Act) (w : World), PostR w0 E nt (Q .normal) Q ((opsC P nt all l).run call r h) → RegRel E nt r a → Sim w0 E h w →
    wpOpsIn (Wd rd) 0 P all Q (List.range' i l.length) a w
  | [], i, _, _, E, r, h, a, w, hp, k, s => by
    simp only [opsC] at hp
    simp only [List.length_nil, List.range'_zero, wpOpsIn]
    exact hp E a w (Env.le.refl E) k s
  | o :: os, i, hl, hr, E, r, h, a, w, hp, k, s => by
    simp only [opsC, seqRun] at hp
    have hi : all[i]? = some o := by have := hl 0; simpa using this.symm
    rw [List.length_cons, List.range'_succ, wpOpsIn_cons]
    refine operC_sound hN hcall hbody hi (hr.imp id fun h => h o (by simp)) k s ?_
    cases h1 : (operC P nt all o).run call r h with
    | fail => rw [h1] at hp; exact hp
    | pan v r1 hh1 => rw [h1] at hp; exact hp
    | ok r1 hh1 =>
      rw [h1] at hp
      simp only at hp
      intro E' a' w' q1 q2 q3
      refine opsC_sound hN hcall hbody os (i + 1) (fun j => ?_) (hr.imp id fun h o' ho' => h o' (by simp [ho'])) E' r1 hh1 a' w' (hp.up q1) q2 q3
      have := hl (j + 1)
      simp only [List.getElem?_cons_succ] at this
      rw [this]
      congr 1
      omega
end
end Go.Proofs.YtpfmfpakbfkfoaaGreatDoor.Am

namespace Go.Proofs.YtpfmfpakbfkfoaaGreatDoor.Am
variable [Lay]
set_option linter.unusedSectionVars false
open Go Go.RowKit

/-! Equality of values. -/
theorem eqV1_eq {a b : V} (h : eqV1 a b = true) : a = b := by
  cases a <;> cases b <;> simp only [eqV1] at h <;> first
    | rfl
    | (cases h; done)
    | (rename_i x y; cases x <;> cases y <;> simp_all; done)
    | (rename_i k x l y
       simp only [Bool.and_eq_true] at h
       have h1 := eqKind_eq h.1
       have h2 := h.2
       rw [eqB_eq, beq_iff_eq] at h2
       rw [h1, h2]; done)
    | (rw [beqBytes_eq, beq_iff_eq] at h; rw [h]; done)
    | (simp only [Bool.and_eq_true, Nat.beq_eq] at h
       obtain ⟨h1, h2, h3, h4⟩ := h
       rw [Pa.eqB_eq h1, h2, h3, h4]; done)
    | (simp only [Bool.and_eq_true, Nat.beq_eq] at h
       rw [Pa.eqB_eq h.1, h.2]; done)
    | (rw [Pa.eqB_eq h]; done)
    | (simp only [Bool.and_eq_true, Nat.beq_eq] at h
       rw [eqKind_eq h.1, h.2]; done)
    | (simp only [Bool.and_eq_true, Nat.beq_eq, List.isEmpty_iff] at h
       obtain ⟨h1, h2, h3⟩ := h
       rw [h1, h2, h3]; done)
    | (simp only [Bool.and_eq_true, List.isEmpty_iff] at h
       rw [h.1, h.2]; done)

theorem eqLs_eq {f : V → V → Bool} (hf : ∀ a b, f a b = true → a = b) : ∀ {a b : List V}, eqLs f a b = true → a = b
  | [], [], _ => rfl
  | [], _ :: _, h => by cases h
  | _ :: _, [], h => by cases h
  | a :: x, b :: y, h => by
    simp only [eqLs] at h
    cases h1 : f a b with
    | false => rw [h1] at h; cases h
    | true =>
      rw [h1] at h
      rw [hf a b h1, eqLs_eq hf h]

theorem bif_true {c x : Bool} (h : (bif c then x else false) = true) : c = true ∧ x = true := by
  cases c with
  | false => cases h
  | true => exact ⟨rfl, h⟩

theorem eqVd_eq : ∀ (d : Nat) (a b : V), eqVd d a b = true → a = b
  | 0, a, b, h => eqV1_eq h
  | d + 1, a, b, h => by
    have ih := eqVd_eq d
    cases a <;> simp only [eqVd] at h <;> first
      | exact eqV1_eq h
      | (cases b <;> simp only at h <;> first
          | (cases h; done)
          | rfl
          | (rw [eqLs_eq ih h]; done)
          | (obtain ⟨h1, h2⟩ := bif_true h
             rw [Nat.beq_eq] at h1
             rw [h1]
             first
               | rw [eqLs_eq ih h2]
               | rw [ih _ _ h2]))

theorem eqV_eq {a b : V} (h : eqV a b = true) : a = b := eqVd_eq 5 a b h

/-! Masks. -/
theorem bitB_eq (m i : Nat) : bitB m i = m.testBit i := by
  rw [Nat.testBit_eq_decide_div_mod_eq]
  unfold bitB
  have e : Nat.mod (Nat.shiftRight m i) 2 = m / 2 ^ i % 2 := by
    show (m >>> i) % 2 = _
    rw [Nat.shiftRight_eq_div_pow]
  rw [e, Bool.eq_iff_iff, Nat.beq_eq, decide_eq_true_eq]

theorem maskOf_bit {masks : List Nat} {i : Nat} : ∀ {es : List Edge}, bitB (maskOf masks es) i = true → ∃ e ∈ es, bindsB e = true ∧ (e.on = i ∨ bitB ((masks[e.on]?).getD 0) i = true)
  | [], h => by simp [maskOf, bitB_eq] at h
  | e :: es, h => by
    simp only [maskOf] at h
    cases hb : bindsB e with
    | false =>
      rw [hb] at h
      obtain ⟨e', h1, h2⟩ := maskOf_bit (es := es) h
      exact ⟨e', by simp [h1], h2⟩
    | true =>
      rw [hb] at h
      simp only [cond_true, bitB_eq] at h
      have h' : ((1 <<< e.on ||| (masks[e.on]?).getD 0) ||| maskOf masks es).testBit i = true := h
      rw [Nat.testBit_or, Nat.testBit_or, Bool.or_eq_true, Bool.or_eq_true] at h'
      rcases h' with (h1 | h1) | h1
      · refine ⟨e, by simp, hb, .inl ?_⟩
        rw [Nat.testBit_shiftLeft] at h1
        simp only [Bool.and_eq_true, decide_eq_true_eq] at h1
        have := h1.2
        rw [Nat.testBit_one_eq_true_iff_self_eq_zero] at this
        omega
      · exact ⟨e, by simp, hb, .inr (by rw [bitB_eq]; exact h1)⟩
      · rw [← bitB_eq] at h1
        obtain ⟨e', q1, q2⟩ := maskOf_bit (es := es) h1
        exact ⟨e', by simp [q1], q2⟩

/-- whoever is done, what it waits for is done -/
def DownP (ops : Array Oper) (L : Nat → Prop) : Prop := ∀ k o e, L k → ops[k]? = some o → e ∈ o.after.toList → bindsB e = true → L e.on

theorem masksFrom_ok {ops : Array Oper} {L : Nat → Prop} (hD : DownP ops L) : ∀ (os : List Oper) (masks : List Nat), (∀ j, os[j]? = ops[masks.length + j]?) →
    (∀ k m i, masks[k]? = some m → bitB m i = true → L k → L i) → ∀ k m i, (masksFrom masks os)[k]? = some m → bitB m i = true → L k → L i
  | [], masks, _, h, k, m, i, hk, hb, hL => h k m i hk hb hL
  | o :: os, masks, hos, h, k, m, i, hk, hb, hL => by
    simp only [masksFrom] at hk
    refine masksFrom_ok hD os (masks ++ [maskOf masks o.after.toList]) (fun j => ?_) (fun k m i hk hb hL => ?_) k m i hk hb hL
    · have := hos (j + 1)
      simp only [List.getElem?_cons_succ] at this
      rw [this]
      congr 1
      simp
      omega
    · by_cases hlt : k < masks.length
      · rw [List.getElem?_append_left hlt] at hk
        exact h k m i hk hb hL
      · rw [List.getElem?_append_right (by omega)] at hk
        have hk0 : k - masks.length = 0 := by
          cases hz : k - masks.length with
          | zero => rfl
          | succ n => rw [hz] at hk; simp at hk
        rw [hk0] at hk
        simp only [List.getElem?_cons_zero, Option.some.injEq] at hk
        subst hk
        have hko : k = masks.length := by omega
        have ho : ops[k]? = some o := by have := hos 0; simp only [List.getElem?_cons_zero, Nat.add_zero] at this; rw [hko]; exact this.symm
        obtain ⟨e, he, hbe, hor⟩ := maskOf_bit hb
        have hLe := hD k o e hL ho he hbe
        rcases hor with rfl | hor
        · exact hLe
        · cases hm : masks[e.on]? with
          | none => rw [hm] at hor; simp [bitB_eq] at hor
          | some m' => rw [hm] at hor; exact h e.on m' i hm hor hLe

theorem zipAll_get {f : Nat → Nat → Oper → Bool} : ∀ {k : Nat} {ms : List Nat} {os : List Oper}, zipAll f k ms os = true → ∀ j o, os[j]? = some o → ∃ m, ms[j]? = some m ∧ f (k + j) m o = true
  | _, _, [], _, j, o, h => by simp at h
  | _, [], _ :: _, h, _, _, _ => by cases h
  | k, m :: ms, o' :: os, h, j, o, ho => by
    simp only [zipAll, Bool.and_eq_true] at h
    cases j with
    | zero => simp only [List.getElem?_cons_zero, Option.some.injEq] at ho; subst ho; exact ⟨m, rfl, h.1⟩
    | succ j =>
      obtain ⟨m', h1, h2⟩ := zipAll_get h.2 j o (by simpa using ho)
      exact ⟨m', by simpa using h1, by rw [show k + (j + 1) = k + 1 + j from by omega]; exact h2⟩

theorem zipAll_mk {f : Nat → Nat → Oper → Bool} : ∀ {k : Nat} {ms : List Nat} {os : List Oper}, ms.length = os.length → (∀ j m o, ms[j]? = some m → os[j]? = some o → f (k + j) m o = true) → zipAll f k ms os = true
  | _, [], [], _, _ => rfl
  | _, [], _ :: _, h, _ => by simp at h
  | _, _ :: _, [], h, _ => by simp at h
  | k, m :: ms, o :: os, h, hf => by
    simp only [zipAll, Bool.and_eq_true]
    refine ⟨hf 0 m o rfl rfl, zipAll_mk (by simpa using h) fun j m' o' h1 h2 => ?_⟩
    have := hf (j + 1) m' o' (by simpa using h1) (by simpa using h2)
    rw [show k + 1 + j = k + (j + 1) from by omega]
    exact this

theorem masksFrom_length : ∀ (os : List Oper) (masks : List Nat), (masksFrom masks os).length = masks.length + os.length
  | [], masks => rfl
  | o :: os, masks => by simp [masksFrom, masksFrom_length os]; omega

section
variable {P : Program}

/-! What only looks leaves the memory; what does not even look gives the same everywhere. -/
theorem cop_quiet {o : Oper} {call : CallF} {r : Regs} {h h' : Heap} {v : V} (hq : isEff P o.op = false) (he : (cop P o).run call r h = .val v h') : h' = h := by
  obtain ⟨dst, op, type, pos, after, guard⟩ := o
  cases op <;> simp only [isEff] at hq <;> try (cases hq; done)
  all_goals simp only [cop] at he
  case convert s d x =>
    unfold convC at he
    cases hs : tiOf P s with
    | none => rw [hs] at he; cases he
    | some si =>
      cases hd : tiOf P d with
      | none => rw [hd] at hq; cases hq
      | some di =>
        rw [hs, hd] at he
        rw [hd] at hq
        simp only at he hq
        cases hu : di.und with
        | int k =>
          rw [hu] at he
          simp only at he
          cases hq : ((evC x).run r).isSym with
          | true =>
            rw [hq] at he
            simp only [cond_true] at he
            cases hk : seekC k ((evC x).run r) Lay.cnv with
            | none => rw [hk] at he; cases he
            | some v1 =>
              rw [hk] at he
              simp only [OR.of, OR.val.injEq] at he
              exact he.2.symm
          | false =>
          rw [hq] at he
          simp only [cond_false] at he
          obtain ⟨k', n, _, h1⟩ := onInt_val he
          simp only [OR.val.injEq] at h1
          exact h1.2.symm
        | slice e => rw [hu] at hq; cases hq
        | string =>
          rw [hu] at he
          simp only at he
          have other : ∀ x : V, (match x with
              | .str s => OR.val (.str s) h
              | .int _ n => .val (.str (Utf8.encode n).data.toList) h
              | _ => .fail) = .val v h' → h' = h := by
            intro x he
            cases x <;> simp only at he <;> first
              | (cases he; done)
              | (simp only [OR.val.injEq] at he; exact he.2.symm)
          cases hsu : si.und with
          | slice e =>
            rw [hsu] at he
            simp only at he
            cases hte : tiOf P e with
            | none => rw [hte] at he; cases he
            | some ei =>
              rw [hte] at he
              simp only at he
              have strq : ∀ b off len, strAt b off len h = .val v h' → h' = h := by
                intro b off len he
                unfold strAt at he
                cases hg : h.get b <;> rw [hg] at he <;> simp only [Blk.see] at he <;> try (cases he; done)
                all_goals
                  obtain ⟨_, h2⟩ := cond_val he
                  cases hu8 : uint8s (gets _ off len) <;> rw [hu8] at h2 <;> first
                    | (cases h2; done)
                    | (simp only [OR.val.injEq] at h2; exact h2.2.symm)
              cases hei : ei.und with
              | int ke =>
                rw [hei] at he
                cases ke <;> simp only at he <;> try (cases he; done)
                simp only [convStr] at he
                cases hx : (evC x).run r <;> rw [hx] at he <;> simp only at he <;> first
                  | (cases he; done)
                  | exact strq _ _ _ he
                  | (simp only [OR.val.injEq] at he; exact he.2.symm)
              | _ => rw [hei] at he; cases he
          | _ => rw [hsu] at he; exact other _ he
        | _ => rw [hu] at he; cases he
  case call c =>
    obtain ⟨callee, args, types⟩ := c
    cases callee <;> simp only at hq <;> try (cases hq; done)
    rename_i b
    simp only [callC] at he
    cases b <;> simp only at hq <;> try (cases hq; done)
    · simp only [builtC] at he
      cases hts : types.toList with
      | nil => rw [hts] at he; simp [BuiltC.none] at he
      | cons t ts =>
        cases ts with
        | cons _ _ => rw [hts] at he; simp [BuiltC.none] at he
        | nil =>
          rw [hts] at he
          simp only at he
          cases ht : tiOf P t with
          | none => rw [ht] at he; simp [BuiltC.none] at he
          | some ti =>
            rw [ht] at he
            rw [hts] at hq
            simp only [isMapTop, ht] at hq
            simp only [hq, cond_false] at he
            split at he
            · exact (OR.of_val he).2
            · cases he
    · exact (OR.of_val he).2
    · exact (OR.of_val he).2
  case move => simp only [OR.val.injEq] at he; exact he.2.symm
  case assign => simp only [OR.val.injEq] at he; exact he.2.symm
  case pick c a b =>
    split at he
    · simp only [OR.val.injEq] at he; exact he.2.symm
    · cases he
  case makeFunc fn first caps =>
    cases fn <;> simp only at he <;> try (simp [OpC.none] at he; done)
    rename_i f
    cases hf : (first.isEmpty && !Nat.beq f yieldId) <;> rw [hf] at he
    · simp only [cond_false] at he
      cases hf2 : (caps.isEmpty && !Nat.beq f yieldId) <;> rw [hf2] at he
      · simp [OpC.none] at he
      · simp only [cond_true, OR.val.injEq] at he; exact he.2.symm
    · simp only [cond_true, OR.val.injEq] at he; exact he.2.symm
  case typeAssert x xt t ok =>
    cases ht : tiOf P t with
    | none => rw [ht] at he; simp [OpC.none] at he
    | some ti =>
      rw [ht] at he
      simp only at he
      cases hb : Nat.beq (nilKindD ti.und) 5 <;> rw [hb] at he
      · exact (OR.of_val he).2
      · simp [OpC.none] at he
  case makeInterface t x =>
    cases ht : tiOf P t with
    | none => rw [ht] at he; simp [OpC.none] at he
    | some ti =>
      rw [ht] at he
      simp only at he
      cases hb : Nat.beq (nilKindD ti.und) 5 <;> rw [hb] at he
      · simp only [cond_false, OR.val.injEq] at he; exact he.2.symm
      · simp [OpC.none] at he
  case extract x i =>
    split at he
    · exact (OR.of_val he).2
    · cases he
  all_goals exact (OR.of_val he).2

theorem OR.of_any {h h' : Heap} {x : Option V} {v : V} (he : OR.of h x = .val v h') (H : Heap) : OR.of H x = .val v H := by
  rw [(OR.of_val he).1]; rfl

theorem cop_pure {o : Oper} {call : CallF} {r : Regs} {h h' : Heap} {v : V} (hq : isEff P o.op = false) (hl : looks o.op = false) (he : (cop P o).run call r h = .val v h') (H : Heap) : (cop P o).run call r H = .val v H := by
  obtain ⟨dst, op, type, pos, after, guard⟩ := o
  cases op <;> simp only [isEff] at hq <;> try (cases hq; done)
  all_goals simp only [looks] at hl <;> try (cases hl; done)
  all_goals simp only [cop] at he ⊢
  case call c =>
    obtain ⟨callee, args, types⟩ := c
    cases callee <;> simp only at hq <;> try (cases hq; done)
    rename_i b
    simp only [callC] at he ⊢
    cases b <;> simp only at hq <;> try (cases hq; done)
    · simp only [builtC] at he ⊢
      cases hts : types.toList with
      | nil => rw [hts] at he; simp [BuiltC.none] at he
      | cons t ts =>
        cases ts with
        | cons _ _ => rw [hts] at he; simp [BuiltC.none] at he
        | nil =>
          rw [hts] at he
          simp only at he ⊢
          cases ht : tiOf P t with
          | none => rw [ht] at he; simp [BuiltC.none] at he
          | some ti =>
            rw [ht] at he
            rw [hts] at hq
            simp only [isMapTop, ht] at hq
            simp only [hq, cond_false] at he ⊢
            split at he
            · exact OR.of_any he H
            · cases he
    · exact OR.of_any he H
    · exact OR.of_any he H
  case move => simp only [OR.val.injEq] at he; rw [he.1]
  case assign => simp only [OR.val.injEq] at he; rw [he.1]
  case pick c a b =>
    split at he
    · simp only [OR.val.injEq] at he; rw [he.1]
    · cases he
  case makeFunc fn first caps =>
    cases fn <;> simp only at he ⊢ <;> try (simp [OpC.none] at he; done)
    rename_i f
    cases hf : (first.isEmpty && !Nat.beq f yieldId) <;> rw [hf] at he
    · simp only [cond_false] at he ⊢
      cases hf2 : (caps.isEmpty && !Nat.beq f yieldId) <;> rw [hf2] at he
      · simp [OpC.none] at he
      · simp only [cond_true, OR.val.injEq] at he ⊢; exact ⟨he.1, trivial⟩
    · simp only [cond_true, OR.val.injEq] at he ⊢; exact ⟨he.1, trivial⟩
  case typeAssert x xt t ok =>
    cases ht : tiOf P t with
    | none => rw [ht] at he; simp [OpC.none] at he
    | some ti =>
      rw [ht] at he
      simp only at he ⊢
      cases hb : Nat.beq (nilKindD ti.und) 5 <;> rw [hb] at he
      · exact OR.of_any he H
      · simp [OpC.none] at he
  case makeInterface t x =>
    cases ht : tiOf P t with
    | none => rw [ht] at he; simp [OpC.none] at he
    | some ti =>
      rw [ht] at he
      simp only at he ⊢
      cases hb : Nat.beq (nilKindD ti.und) 5 <;> rw [hb] at he
      · simp only [cond_false, OR.val.injEq] at he ⊢; exact ⟨he.1, trivial⟩
      · simp [OpC.none] at he
  case extract x i =>
    split at he
    · exact OR.of_any he H
    · cases he
  all_goals exact OR.of_any he H
end
end Go.Proofs.YtpfmfpakbfkfoaaGreatDoor.Am

namespace Go.Proofs.YtpfmfpakbfkfoaaGreatDoor.Am
variable [Lay]
set_option linter.unusedSectionVars false
open Go Go.RowKit

section
variable {P : Program}

/-! What just makes a new block. -/
/-- in what world ever, a new block, and what is to be known of it -/
def Makes (P : Program) (E : Env) (m : Sem Value) (v : V) (h h' : Heap) : Prop :=
  ∃ k, h' = h.new k ∧ True ∧ ∀ w, ∃ X ob, m.run P w = .ok X { w with heap := w.heap.push ob } ∧
    ∀ E', E.le E' → E' (pa h.next) = some ⟨w.heap.size, 0, 0⟩ → Rel E' v X ∧ ∀ B, B ≤ w.heap.size → BlkRel B E' { w with heap := w.heap.push ob } (pa h.next) k

theorem newCells_makes {E : Env} {h h' : Heap} {vs : List V} {l : List Value} (hl : RelL E vs l) (he : newCells h vs = some h') (t : TypeId) :
    ∃ k, h' = h.new k ∧ True ∧ ∀ w, (newRow t l.toArray).run P w = .ok ⟨w.heap.size, 0, none⟩ { w with heap := w.heap.push (.cells l.toArray t) } ∧
      ∀ E', E.le E' → E' (pa h.next) = some ⟨w.heap.size, 0, 0⟩ → ∀ B, B ≤ w.heap.size → BlkRel B E' { w with heap := w.heap.push (.cells l.toArray t) } (pa h.next) k := by
  unfold newCells at he
  obtain ⟨hc, he⟩ := cond_some he
  rw [Nat.ble_eq] at hc
  cases he
  refine ⟨_, rfl, trivial, fun w => ⟨by simp [newRow], fun E' hle hput B hB => ?_⟩⟩
  have := fresh_cells (RelL.mono hle _ _ hl) hc #[]
  rw [Array.append_empty] at this
  exact ⟨hc, _, _, t, (0, 0), hput, hB, by simp, .inr (Nat.le_refl _), fun _ => rfl, fun h => absurd rfl h, this⟩

theorem buildSlice_makes {E : Env} {h h' : Heap} {t : TypeId} {n : Nat} {ps : List (Nat × V)} {qs : List (Nat × Value)} {v : V} (hp : RelP E ps qs) (he : (buildSliceC P t n).run ps h = .val v h') :
    Makes P E (Instr.buildSlice t n qs.toArray) v h h' := by
  unfold buildSliceC at he
  cases ht : tiOf P t with
  | none => rw [ht] at he; cases he
  | some ti =>
    rw [ht] at he
    simp only at he
    have hu := run_und ht
    cases hund : ti.und with
    | slice e =>
      rw [hund] at he hu
      simp only at he
      cases hte : tiOf P e with
      | none => rw [hte] at he; cases he
      | some ei =>
        rw [hte] at he
        simp only at he
        cases hz : ei.zero with
        | none => rw [hz] at he; cases he
        | some z =>
          rw [hz] at he
          simp only at he
          cases hc : (Nat.ble (n * ei.size) 1000000 && Nat.beq z.cells.length ei.size) with
          | false => rw [hc] at he; cases he
          | true =>
            rw [hc] at he
            simp only [cond_true] at he
            simp only [Bool.and_eq_true, Nat.ble_eq, Nat.beq_eq] at hc
            cases hf : fillV (fun i => some (i * ei.size, ei.size)) (repeatV z.cells n) ps with
            | none => rw [hf] at he; cases he
            | some cs =>
              rw [hf] at he
              simp only at he
              cases hn : newCells h cs with
              | none => rw [hn] at he; cases he
              | some h1 =>
                rw [hn] at he
                simp only [OR.val.injEq] at he
                obtain ⟨rfl, rfl⟩ := he
                obtain ⟨x, hx, hxr, hxs⟩ := zero_cells (P := P) (E := E) hte hz ⟨#[], fun _ _ => 0, 0, default, #[]⟩
                have hxs' : x.cells.size = ei.size := by rw [hxs, hc.2]
                have hrep := repeat_rel hxr n
                rw [hxs'] at hrep
                obtain ⟨b, hb1, hb2⟩ := fillV_sound (a := (Array.range (n * ei.size)).map (x.cells[· % x.cells.size]!)) hp (by rw [hxs']; exact hrep) hf
                obtain ⟨k, g1, g2, g3⟩ := newCells_makes (P := P) hb2 hn e
                refine ⟨k, g1, g2, fun w => ⟨.slice (some ⟨w.heap.size, 0, none⟩) n n, .cells b e, ?_, fun E' hle hput => ⟨?_, ?_⟩⟩⟩
                · have hlim : ¬ 16777216 < n * ei.size := by omega
                  have hg3 : (newRow e b).run P w = .ok ⟨w.heap.size, 0, none⟩ { w with heap := w.heap.push (.cells b e) } := by simpa using (g3 w).1
                  by_cases h0 : n * ei.size = 0
                  · have hb1' : Instr.fill (fun i => some (i * ei.size, ei.size)) ((Array.range (n * ei.size)).map ((#[] : Array Value)[· % 0]!)) qs = some b := by
                      have e1 : (Array.range (n * ei.size)).map ((#[] : Array Value)[· % 0]!) = (Array.range (n * ei.size)).map (x.cells[· % x.cells.size]!) := by
                        rw [h0]; simp
                      rw [e1]; exact hb1
                    have hb1'' : Instr.fill (fun i => some (i * ei.size, ei.size)) ((Array.range (n * ei.size)).map (fun x => (#[] : Array Value)[x % (#[] : Array Value).size]!)) qs = some b := hb1'
                    simp only [Instr.buildSlice, Sem.run_bind, hu, Result.andThen_ok, run_size hte, Sem.run_ite]
                    rw [if_neg hlim]
                    simp only [Sem.run_pure, Result.andThen_ok, if_pos h0]
                    rw [hb1'']
                    simp only [Sem.run_bind, hg3, Result.andThen_ok, Sem.run_pure]
                  · simp only [Instr.buildSlice, Sem.run_bind, hu, Result.andThen_ok, run_size hte, Sem.run_ite]
                    rw [if_neg hlim]
                    simp only [Sem.run_pure, Result.andThen_ok, if_neg h0, hx]
                    rw [hb1]
                    simp only [Sem.run_bind, hg3, Result.andThen_ok, Sem.run_pure]
                · simp only [Rel]
                  exact ⟨_, hput, Nat.le_refl _, by simp⟩
                · simpa using (g3 w).2 E' hle hput
    | _ => rw [hund] at he; cases he

theorem makeSlice_makes {E : Env} {h h' : Heap} {t : TypeId} {x y v : V} {X Y : Value} (hx : Rel E x X) (hy : Rel E y Y) (he : (makeSliceC P t).run x y h = .val v h') :
    Makes P E (Instr.makeSlice t X Y) v h h' := by
  unfold makeSliceC at he
  cases ht : tiOf P t with
  | none => rw [ht] at he; cases he
  | some ti =>
    rw [ht] at he
    simp only at he
    have hu := run_und ht
    cases hund : ti.und with
    | slice e =>
      rw [hund] at he hu
      simp only at he
      cases hte : tiOf P e with
      | none => rw [hte] at he; cases he
      | some ei =>
        rw [hte] at he
        simp only at he
        cases hz : ei.zero with
        | none => rw [hz] at he; cases he
        | some z =>
          rw [hz] at he
          simp only at he
          cases hby : Nat.ble ei.bytes 4096 with
          | false => rw [hby] at he; cases he
          | true =>
            rw [hby] at he
            simp only [cond_true, makeSliceV] at he
            obtain ⟨k1, l, rfl, he1⟩ := onInt_val he
            obtain ⟨k2, c, rfl, he2⟩ := onInt_val he1
            have := hx.int_of; subst this
            have := hy.int_of; subst this
            obtain ⟨hc, he3⟩ := cond_val he2
            simp only [Bool.and_eq_true, leB_eq, decide_eq_true_eq, Nat.beq_eq] at hc
            obtain ⟨⟨h0, h1, h2⟩, h3⟩ := hc
            rw [Nat.ble_eq] at hby
            cases hn : newCells h (repeatV z.cells c.toNat) with
            | none => rw [hn] at he3; cases he3
            | some hh =>
              rw [hn] at he3
              simp only [OR.val.injEq] at he3
              obtain ⟨rfl, rfl⟩ := he3
              obtain ⟨xz, hxz, hxr, hxs⟩ := zero_cells (P := P) (E := E) hte hz ⟨#[], fun _ _ => 0, 0, default, #[]⟩
              have hxs' : xz.cells.size = ei.size := by rw [hxs, h3]
              have hrep := repeat_rel hxr c.toNat
              obtain ⟨k, g1, g2, g3⟩ := newCells_makes (P := P) hrep hn e
              have hwl : IntKind.i64.wrap l = l := by simp only [IntKind.wrap, IntKind.bits, IntKind.signed]; simp; omega
              have hwc : IntKind.i64.wrap c = c := by simp only [IntKind.wrap, IntKind.bits, IntKind.signed]; simp; omega
              have hmul : (ei.bytes : Int) * c ≤ 4096 * 1000000 := by
                have hb : (ei.bytes : Int) ≤ 4096 := by omega
                have := Int.mul_le_mul_of_nonneg_right (c := c) hb (by omega)
                omega
              refine ⟨k, g1, g2, fun w => ?_⟩
              obtain ⟨i, hi, hib⟩ := run_bytes (P := P) hte w
              refine ⟨.slice (some ⟨w.heap.size, 0, none⟩) l.toNat c.toNat, _, ?_, fun E' hle hput => ⟨?_, (g3 w).2 E' hle hput⟩⟩
              · have hg3 := (g3 w).1
                simp only [Array.toArray_toList] at hg3
                have c1 : ¬ c < 0 := by omega
                have c2 : ¬ ((ei.bytes : Int) * c > 281474976710656) := by omega
                have c3 : ¬ l < 0 := by omega
                have c4 : ¬ l > c := by omega
                have same : (if c.toNat * ei.size = 0 then (Array.range (c.toNat * ei.size)).map (fun x => (#[] : Array Value)[x % (#[] : Array Value).size]!) else (Array.range (c.toNat * ei.size)).map (fun x => xz.cells[x % xz.cells.size]!)) =
                    (Array.range (c.toNat * xz.cells.size)).map (xz.cells[· % xz.cells.size]!) := by
                  rw [hxs']
                  by_cases hq : c.toNat * ei.size = 0
                  · rw [hq]; simp
                  · rw [if_neg hq]
                simp only [Instr.makeSlice, Sem.run_bind, hu, Result.andThen_ok, asInt, asIntOf, Sem.run_pure, hi, hwl, hwc, hib]
                rw [if_neg (by simp only [Bool.or_eq_true, decide_eq_true_eq, not_or]; exact ⟨⟨⟨c1, c2⟩, c3⟩, c4⟩)]
                simp only [Result.andThen_ok, Sem.run_bind, run_askRoom, run_size hte]
                by_cases hq : c.toNat * ei.size = 0
                · rw [if_pos hq] at same
                  rw [if_pos hq]
                  simp only [Sem.run_pure, Result.andThen_ok, Sem.run_bind, same, hg3, Array.toArray_toList]
                · rw [if_neg hq] at same
                  rw [if_neg hq]
                  simp only [Sem.run_pure, Result.andThen_ok, Sem.run_bind, hxz, same, hg3, Array.toArray_toList]
              · simp only [Rel]
                exact ⟨_, hput, by omega, by simp⟩
    | _ => rw [hund] at he; cases he

set_option maxHeartbeats 2000000 in
theorem cop_makes {E : Env} {h h' : Heap} {call : CallF} {o : Oper} {nt : Nat} {r : Regs} {a : Act} {v : V} (ha : isAlloc o = true) (he : (cop P o).run call r h = .val v h') (k : RegRel0 E nt r a) :
    ∃ m : Sem Value, execOp a.eval o = (do pure (.value (← m))) ∧ Makes P E m v h h' := by
  obtain ⟨dst, op, type, pos, after, guard⟩ := o
  cases op <;> simp only [isAlloc] at ha <;> try (cases ha; done)
  all_goals simp only [cop] at he
  case alloc t =>
    refine ⟨Instr.alloc t true (.tuple #[]), rfl, ?_⟩
    cases ht : tiOf P t with
    | none => rw [ht] at he; simp [OpC.none] at he
    | some ti =>
      rw [ht] at he
      simp only at he
      cases hz : ti.zero with
      | none => rw [hz] at he; simp [OpC.none] at he
      | some z =>
        rw [hz] at he
        simp only at he
        cases hn : newCells h z.cells with
        | none => rw [hn] at he; cases he
        | some h1 =>
          rw [hn] at he
          simp only [orHeap, OR.val.injEq] at he; obtain ⟨rfl, rfl⟩ := he
          obtain ⟨x, hx, hxr, _⟩ := zero_cells (P := P) (E := E) ht hz ⟨#[], fun _ _ => 0, 0, default, #[]⟩
          obtain ⟨kk, g1, g2, g3⟩ := newCells_makes (P := P) hxr hn t
          refine ⟨kk, g1, g2, fun w => ⟨.pointer (some ⟨w.heap.size, 0, none⟩), .cells x.cells t, ?_, fun E' hle hput => ⟨?_, ?_⟩⟩⟩
          · have := (g3 w).1
            simp only [Array.toArray_toList] at this
            simp only [Instr.alloc, Sem.run_bind, hx, Result.andThen_ok, newVar, this, Sem.run_pure]
          · simp only [Rel]; exact ⟨_, hput, by simp⟩
          · simpa using (g3 w).2 E' hle hput
  case box t x =>
    refine ⟨Instr.box t (a.eval x), rfl, ?_⟩
    obtain ⟨hg, he⟩ := cond_val he
    cases hn : newCells h ((evC x).run r).cells with
    | none => rw [hn] at he; cases he
    | some h1 =>
      rw [hn] at he
      simp only [orHeap, OR.val.injEq] at he; obtain ⟨rfl, rfl⟩ := he
      have hl := (evC_sound k x).cells (fun e => by rw [e] at hg; cases hg)
      obtain ⟨kk, g1, g2, g3⟩ := newCells_makes (P := P) hl hn t
      refine ⟨kk, g1, g2, fun w => ⟨.pointer (some ⟨w.heap.size, 0, none⟩), .cells (a.eval x).cells t, ?_, fun E' hle hput => ⟨?_, ?_⟩⟩⟩
      · have := (g3 w).1
        simp only [Array.toArray_toList] at this
        simp only [Instr.box, Sem.run_bind, newVar, this, Result.andThen_ok, Sem.run_pure]
      · simp only [Rel]; exact ⟨_, hput, by simp⟩
      · simpa using (g3 w).2 E' hle hput
  case buildSlice t n ps =>
    refine ⟨Instr.buildSlice t n (ps.map fun (i, x) => (i, a.eval x)), rfl, ?_⟩
    rw [parts_array]
    exact buildSlice_makes (partsC_sound k ps.toList) he
  case makeSlice t l c => exact ⟨Instr.makeSlice t (a.eval l) (a.eval c), rfl, makeSlice_makes (evC_sound k l) (evC_sound k c) he⟩
  case makeMap t x =>
    cases x with
    | some _ => cases ha
    | none =>
      refine ⟨Instr.makeMap t none, rfl, ?_⟩
      simp only [optC, makeMapC] at he
      cases ht : tiOf P t with
      | none => rw [ht] at he; cases he
      | some ti =>
        rw [ht] at he
        simp only at he
        cases hb : Nat.beq (nilKindD ti.und) 3 with
        | false => rw [hb] at he; cases he
        | true =>
          rw [hb] at he
          simp only [cond_true, makeMapV, newMap] at he
          simp only [OR.val.injEq] at he
          obtain ⟨rfl, rfl⟩ := he
          refine ⟨_, rfl, trivial, fun w => ⟨.map (some w.heap.size), .map #[] 0, ?_, fun E' hle hput => ⟨?_, fun B hB => ?_⟩⟩⟩
          · simp only [Instr.makeMap, Sem.run_bind, run_newObj, Result.andThen_ok, Sem.run_pure]
          · simp only [Rel]; exact ⟨_, hput, rfl⟩
          · exact ⟨_, #[], hput, hB, by simp, rfl⟩

/-! Blocks that the machine holds already, but the world not yet. -/
def Fr.hold (F : Fr) (b : Pa) (k : Blk) : Fr := ⟨F.w, fun b' => if b' = b then some k else F.pend b'⟩
def Fr.free (F : Fr) (b : Pa) : Fr := ⟨F.w, fun b' => if b' = b then none else F.pend b'⟩

theorem Sim.hold {F : Fr} {E : Env} {h : Heap} {w : World} (s : Sim F E h w) (k : Blk) : Sim (F.hold (pa h.next) k) E (h.new k) w := by
  have hnone := s.fresh h.next (Nat.le_refl _)
  refine ⟨fun b hb => ?_, fun b k' hk => ?_, fun b b' p p' h1 h2 e1 e2 hbb => ?_, fun i hi => s.fresh i (Nat.le_of_succ_le hi), s.frame, s.laid, fun b p n cs st h1 e1 => s.base b p n cs st (by
    have n1 : pa h.next ≠ b := fun e => by rw [← e, hnone] at e1; cases e1
    rwa [Heap.get_new, if_neg n1] at h1) e1⟩
  · simp only [Fr.hold] at hb
    by_cases hq : b = pa h.next
    · rw [if_pos hq] at hb; cases hb
    · rw [if_neg hq] at hb
      rw [Heap.get_new, if_neg (fun e => hq e.symm)]
      exact s.blk b hb
  · simp only [Fr.hold] at hk
    by_cases hq : b = pa h.next
    · rw [if_pos hq] at hk
      cases hk
      exact ⟨by rw [Heap.get_new, if_pos hq.symm], by rw [hq]; exact hnone, h.next, Nat.lt_succ_self _, hq⟩
    · rw [if_neg hq] at hk
      obtain ⟨q1, q2, i, q3, q4⟩ := s.pen b k' hk
      exact ⟨by rw [Heap.get_new, if_neg (fun e => hq e.symm)]; exact q1, q2, i, Nat.lt_succ_of_lt q3, q4⟩
  · have n1 : pa h.next ≠ b := fun e => by rw [← e, hnone] at e1; cases e1
    have n2 : pa h.next ≠ b' := fun e => by rw [← e, hnone] at e2; cases e2
    rw [Heap.get_new, if_neg n1] at h1
    rw [Heap.get_new, if_neg n2] at h2
    exact s.inj b b' p p' h1 h2 e1 e2 hbb

/-- now the world makes it -/
theorem Sim.link {F : Fr} {E : Env} {h : Heap} {w : World} (s : Sim F E h w) {b : Pa} {k : Blk} (hp : F.pend b = some k) {o : Obj}
    (hrel : BlkRel F.w.heap.size (E.put b ⟨w.heap.size, 0, 0⟩) { w with heap := w.heap.push o } b k) :
    E.le (E.put b ⟨w.heap.size, 0, 0⟩) ∧ Sim (F.free b) (E.put b ⟨w.heap.size, 0, 0⟩) h { w with heap := w.heap.push o } := by
  obtain ⟨hk, hnone, i0, hi0, hbi⟩ := s.pen b k hp
  have hle : E.le (E.put b ⟨w.heap.size, 0, 0⟩) := Env.le_put hnone
  have hput : E.put b ⟨w.heap.size, 0, 0⟩ b = some ⟨w.heap.size, 0, 0⟩ := by unfold Env.put; rw [if_pos rfl]
  have hold : ∀ b', b' ≠ b → E.put b ⟨w.heap.size, 0, 0⟩ b' = E b' := by intro b' hb; unfold Env.put; rw [if_neg hb]
  have hblk : ∀ b' q, E b' = some q → (h.get b') ≠ .dead → q.blk < w.heap.size := by
    intro b' q hq hd
    have hb := s.at hq
    cases hg : h.get b' with
    | dead => exact absurd hg hd
    | view n cs => rw [hg] at hb; obtain ⟨_, q', c, el, fz, e, _, hh, _⟩ := hb; rw [e] at hq; cases hq; exact (Array.getElem?_eq_some_iff.1 hh).1
    | cells n cs esz st => rw [hg] at hb; obtain ⟨_, q', c, el, fz, e, _, hh, _⟩ := hb; rw [e] at hq; cases hq; exact (Array.getElem?_eq_some_iff.1 hh).1
    | iter st pos => rw [hg] at hb; obtain ⟨q', e, _, _, hh⟩ := hb; rw [e] at hq; cases hq; exact (Array.getElem?_eq_some_iff.1 hh).1
    | mp es clock => rw [hg] at hb; obtain ⟨q', a, e, _, hh, _⟩ := hb; rw [e] at hq; cases hq; exact (Array.getElem?_eq_some_iff.1 hh).1
    | lp l => rw [hg] at hb; obtain ⟨q', a, e, _, hh, _⟩ := hb; rw [e] at hq; cases hq; exact (Array.getElem?_eq_some_iff.1 hh).1
    | dfr => rw [hg] at hb; obtain ⟨q', e, _, hh⟩ := hb; rw [e] at hq; cases hq; exact (Array.getElem?_eq_some_iff.1 hh).1
    | mset es => rw [hg] at hb; obtain ⟨q', a, c, l, e, _, hh, _⟩ := hb; rw [e] at hq; cases hq; exact (Array.getElem?_eq_some_iff.1 hh).1
    | mit src since seen last => rw [hg] at hb; obtain ⟨q', m, a, e, _, _, hh, _⟩ := hb; rw [e] at hq; cases hq; exact (Array.getElem?_eq_some_iff.1 hh).1
  refine ⟨hle, fun b' hb' => ?_, fun b' k' hk' => ?_, fun b1 b2 p1 p2 h1 h2 e1 e2 hbb => ?_, fun i hi => ?_, ⟨s.frame.os, s.frame.tape, s.frame.output, ?_, fun j hj => ?_⟩, s.laid, fun b1 p1 n cs st h1 e1 => by
    by_cases c1 : b1 = b
    · subst c1; rw [hput] at e1; cases e1; rfl
    · rw [hold b1 c1] at e1; exact s.base _ _ _ _ _ h1 e1⟩
  · by_cases hq : b' = b
    · subst hq; rw [hk]; exact hrel
    · simp only [Fr.free, if_neg hq] at hb'
      have h0 := (s.blk b' hb').mono hle
      by_cases hd : h.get b' = .dead
      · rw [hd]; trivial
      · refine BlkRel.keep h0 fun q hq' => ?_
        rw [hold b' hq] at hq'
        have := hblk b' q hq' hd
        simp only [Array.getElem?_push]
        rw [if_neg (by omega)]
  · simp only [Fr.free] at hk'
    by_cases hq : b' = b
    · rw [if_pos hq] at hk'; cases hk'
    · rw [if_neg hq] at hk'
      obtain ⟨q1, q2, q3⟩ := s.pen b' k' hk'
      exact ⟨q1, by rw [hold b' hq]; exact q2, q3⟩
  · by_cases c1 : b1 = b <;> by_cases c2 : b2 = b
    · exact c1.trans c2.symm
    · subst c1
      rw [hput] at e1; cases e1
      rw [hold b2 c2] at e2
      have := hblk b2 p2 e2 (fun e => by rw [e] at h2; cases h2)
      simp only at hbb
      omega
    · subst c2
      rw [hput] at e2; cases e2
      rw [hold b1 c1] at e1
      have := hblk b1 p1 e1 (fun e => by rw [e] at h1; cases h1)
      simp only at hbb
      omega
    · rw [hold b1 c1] at e1
      rw [hold b2 c2] at e2
      exact s.inj b1 b2 p1 p2 h1 h2 e1 e2 hbb
  · rw [hold _ (fun e => ?_)]
    · exact s.fresh i hi
    · rw [hbi] at e
      have := pa_inj e
      omega
  · have := s.frame.size
    simp only [Array.size_push, Fr.free]
    omega
  · have h1 := s.frame.size
    simp only [Fr.free, Array.getElem?_push]
    rw [if_neg (by simp only [Fr.free] at hj; omega)]
    exact s.frame.block j hj
end
end Go.Proofs.YtpfmfpakbfkfoaaGreatDoor.Am

namespace Go.Proofs.YtpfmfpakbfkfoaaGreatDoor.Am
variable [Lay]
set_option linter.unusedSectionVars false
open Go Go.RowKit

section
variable {P : Program}

/-! What a drawn region's run tells. -/
def regAt (es : List Ent) (rf : Regs) (i : Nat) : Regs :=
  match es[i]? with
  | some e => e.r
  | none => rf

theorem heapAt_succ (e : Ent) (es : List Ent) (hf : Heap) (i : Nat) : heapAt (e :: es) hf (i + 1) = heapAt es hf i := by simp [heapAt]
theorem regAt_succ (e : Ent) (es : List Ent) (rf : Regs) (i : Nat) : regAt (e :: es) rf (i + 1) = regAt es rf i := by simp [regAt]

theorem stepsD_spec {nt : Nat} {all : Array Oper} {call : CallF} : ∀ {l : List Oper} {r rf : Regs} {h hf : Heap} {es : List Ent}, (stepsD P nt all l).run call r h = .ok es rf hf →
    es.length = l.length ∧ heapAt es hf 0 = h ∧ regAt es rf 0 = r ∧ ∀ j o, l[j]? = some o → ∃ e, es[j]? = some e ∧ (dopC P nt all o).run call e.r e.h = .val e.v (heapAt es hf (j + 1)) ∧ regAt es rf (j + 1) = (putC o.dst).run e.r e.v
  | [], r, rf, h, hf, es, he => by
    simp only [stepsD, DR.ok.injEq] at he
    obtain ⟨rfl, rfl, rfl⟩ := he
    exact ⟨rfl, rfl, rfl, fun j o ho => by simp at ho⟩
  | o :: os, r, rf, h, hf, es, he => by
    simp only [stepsD, stepD] at he
    cases h1 : (dopC P nt all o).run call r h with
    | fail => rw [h1] at he; cases he
    | pan _ _ => rw [h1] at he; simp only at he; cases hm : mayPan o.op <;> rw [hm] at he <;> cases he
    | val v hh =>
      rw [h1] at he
      simp only at he
      cases h2 : (stepsD P nt all os).run call ((putC o.dst).run r v) hh with
      | fail => rw [h2] at he; cases he
      | pan _ _ _ _ _ => rw [h2] at he; cases he
      | ok es1 r1 h3 =>
        rw [h2] at he
        simp only [DR.ok.injEq] at he
        obtain ⟨rfl, rfl, rfl⟩ := he
        obtain ⟨q1, q2, q3, q4⟩ := stepsD_spec h2
        refine ⟨by simp [q1], by simp [heapAt], by simp [regAt], fun j o' ho => ?_⟩
        cases j with
        | zero =>
          simp only [List.getElem?_cons_zero, Option.some.injEq] at ho
          subst ho
          exact ⟨⟨r, h, v⟩, rfl, by rw [heapAt_succ, q2]; exact h1, by rw [regAt_succ, q3]⟩
        | succ j =>
          obtain ⟨e, p1, p2, p3⟩ := q4 j o' (by simpa using ho)
          exact ⟨e, by simpa using p1, by rw [heapAt_succ]; exact p2, by rw [regAt_succ]; exact p3⟩

theorem stepsD_pan {nt : Nat} {all : Array Oper} {call : CallF} : ∀ {l : List Oper} {r rf : Regs} {h hf h' : Heap} {es : List Ent} {v : V}, (stepsD P nt all l).run call r h = .pan es rf hf v h' →
    heapAt es hf 0 = h ∧ regAt es rf 0 = r ∧ (∀ j o, j < es.length → l[j]? = some o → ∃ e, es[j]? = some e ∧ (dopC P nt all o).run call e.r e.h = .val e.v (heapAt es hf (j + 1)) ∧ regAt es rf (j + 1) = (putC o.dst).run e.r e.v) ∧
      ∃ o, l[es.length]? = some o ∧ mayPan o.op = true ∧ (dopC P nt all o).run call rf hf = .pan v h'
  | [], r, rf, h, hf, h', es, v, he => by simp [stepsD] at he
  | o :: os, r, rf, h, hf, h', es, v, he => by
    simp only [stepsD, stepD] at he
    cases h1 : (dopC P nt all o).run call r h with
    | fail => rw [h1] at he; cases he
    | pan x hx =>
      rw [h1] at he
      simp only at he
      cases hm : mayPan o.op with
      | false => rw [hm] at he; cases he
      | true =>
        rw [hm] at he
        simp only [cond_true, DR.pan.injEq] at he
        obtain ⟨rfl, rfl, rfl, rfl, rfl⟩ := he
        exact ⟨rfl, rfl, fun j o' hj => by simp at hj, o, rfl, hm, h1⟩
    | val x hh =>
      rw [h1] at he
      simp only at he
      cases h2 : (stepsD P nt all os).run call ((putC o.dst).run r x) hh with
      | fail => rw [h2] at he; cases he
      | ok _ _ _ => rw [h2] at he; cases he
      | pan es1 r1 h3 v1 h4 =>
        rw [h2] at he
        simp only [DR.pan.injEq] at he
        obtain ⟨rfl, rfl, rfl, rfl, rfl⟩ := he
        obtain ⟨q2, q3, q4, o1, q5, q6, q7⟩ := stepsD_pan h2
        refine ⟨by simp [heapAt], by simp [regAt], fun j o' hj ho => ?_, o1, by simpa using q5, q6, q7⟩
        cases j with
        | zero =>
          simp only [List.getElem?_cons_zero, Option.some.injEq] at ho
          subst ho
          exact ⟨⟨r, h, x⟩, rfl, by rw [heapAt_succ, q2]; exact h1, by rw [regAt_succ, q3]⟩
        | succ j =>
          obtain ⟨e, p1, p2, p3⟩ := q4 j o' (by simpa using hj) (by simpa using ho)
          exact ⟨e, by simpa using p1, by rw [heapAt_succ]; exact p2, by rw [regAt_succ]; exact p3⟩

theorem get_put_dst {nt : Nat} {d : Option Nat} (hd : dstFine nt d = true) {r : Regs} {v : V} {t : Nat} (ht : t ≤ top) : T.get .bad (pa t) ((putC d).run r v) = if d = some t then v else T.get .bad (pa t) r := by
  cases d with
  | none => simp [putC]
  | some d =>
    simp only [dstFine, Bool.and_eq_true, Nat.blt_eq, Nat.ble_eq] at hd
    simp only [putC, T.get_put, Option.some.injEq]
    by_cases h : d = t
    · subst h; simp
    · rw [if_neg (fun e => h (pa_inj e)), if_neg h]

theorem dopC_fine {nt : Nat} {all : Array Oper} {o : Oper} {call : CallF} {r : Regs} {h h' : Heap} {v : V} (he : (dopC P nt all o).run call r h = .val v h') : dstFine nt o.dst = true ∧ smallT (readsOf all o) = true := by
  unfold dopC at he
  cases hc : (dstFine nt o.dst && smallT (readsOf all o)) with
  | false => rw [hc] at he; simp [OpC.none] at he
  | true => simpa using hc

theorem trimR_get {r : Regs} {rs : List Nat} (hs : smallT rs = true) {t : Nat} (ht : t ≤ top) : T.get .bad (pa t) (trimR r rs) = if t ∈ rs then T.get .bad (pa t) r else .bad := by
  induction rs with
  | nil => simp [trimR]
  | cons u rs ih =>
    simp only [smallT, List.all_cons, Bool.and_eq_true, Nat.ble_eq] at hs
    simp only [trimR, T.get_put, List.mem_cons]
    by_cases h : u = t
    · subst h; simp
    · rw [if_neg (fun e => h (pa_inj e)), ih hs.2]
      have h' : ¬ t = u := fun e => h e.symm
      simp [h']

theorem dopC_fine' {nt : Nat} {all : Array Oper} {o : Oper} {call : CallF} {r : Regs} {h h' : Heap} {v : V} (he : (dopC P nt all o).run call r h = .pan v h') : dstFine nt o.dst = true ∧ smallT (readsOf all o) = true := by
  unfold dopC at he
  cases hc : (dstFine nt o.dst && smallT (readsOf all o)) with
  | false => rw [hc] at he; simp [OpC.none] at he
  | true => simpa using hc

/-- what one operation's run tells -/
def PostO (w0 : Fr) (E : Env) (o : Oper) (a : Act) (K : Act → World → Prop) (Q : Exit → Act → World → Prop) : OR → Prop
  | .val v h' => ∀ E' x w', E.le E' → Rel E' v x → Sim w0 E' h' w' → K (a.put o.dst x) w'
  | .pan v h' => mayPan o.op = true ∧ ∀ E' x w', E.le E' → Rel E' v x → Sim w0 E' h' w' → Q (.panic (panic1 x)) a w'
  | .fail => False

/-- one operation of a drawn region, wherever it stands -/
theorem dop_post {rd : Option Nat} {w0 : Fr} {E : Env} {h : Heap} {w : World} {call : CallF} (hN : NamesOk P) (hcall : CallOk P call) (hbody : CallBody P call) {all : Array Oper} {i : Nat} {o : Oper} (hi : all[i]? = some o) {nt : Nat} {r : Regs} {a : Act}
    (hfine : dstFine nt o.dst = true ∧ smallT (readsOf all o) = true) (hsize : a.tmps.size = nt) (hreads : ∀ t ∈ readsOf all o, Rel E (T.get .bad (pa t) r) (a.tmps.getD t undef)) (s : Sim w0 E h w)
    {K : Act → World → Prop} {Q : Exit → Act → World → Prop} (hp : PostO w0 E o a K Q ((dopC P nt all o).run call r h)) : wpOpIn (Wd rd) 0 P all Q i K a w := by
  obtain ⟨hd, hs⟩ := hfine
  have k : RegRel0 E nt (trimR r (readsOf all o)) a := ⟨hsize, fun t ht => by
    rw [trimR_get hs ht]
    by_cases hm : t ∈ readsOf all o
    · rw [if_pos hm]; exact hreads t hm
    · rw [if_neg hm]; simp [Rel]⟩
  unfold dopC at hp
  rw [show (dstFine nt o.dst && smallT (readsOf all o)) = true from by rw [hd, hs]; rfl] at hp
  simp only [cond_true] at hp
  have wanted : PostO w0 E o a K Q ((cop P o).run call (trimR r (readsOf all o)) h) → Region.wanted o (yielded all a.tmps) = true → wpOpIn (Wd rd) 0 P all Q i K a w := by
    intro h1 hw
    simp only [wpOpIn, hi, hw, if_true]
    cases hr : (cop P o).run call (trimR r (readsOf all o)) h with
    | fail => rw [hr] at h1; exact h1.elim
    | val v h' => rw [hr] at h1; exact cop_sound hN hcall hbody hr k s h1
    | pan v h' => rw [hr] at h1; exact cop_pan hN hcall h1.1 hr k s h1.2
  have unwanted : PostO w0 E o a K Q (.val (.tuple []) h) → Region.wanted o (yielded all a.tmps) = false → wpOpIn (Wd rd) 0 P all Q i K a w := by
    intro h1 hw
    simp only [wpOpIn, hi, hw, Bool.false_eq_true, if_false]
    exact ⟨fun _ _ => trivial, h1 E undef w (Env.le.refl E) (by simp only [Rel]; exact ⟨#[], rfl, rfl⟩) s⟩
  cases hg : o.guard with
  | none =>
    rw [hg] at hp
    exact wanted hp (by simp [Region.wanted, hg])
  | some jw =>
    obtain ⟨j, want⟩ := jw
    rw [hg] at hp
    simp only at hp
    cases hj : all[j]? with
    | none => rw [hj] at hp; exact hp.elim
    | some g =>
      rw [hj] at hp
      simp only at hp
      cases hgd : g.dst with
      | none => rw [hgd] at hp; exact hp.elim
      | some d =>
        rw [hgd] at hp
        simp only at hp
        cases hc : (Nat.blt d nt && Nat.ble d top) with
        | false => rw [hc] at hp; exact hp.elim
        | true =>
          rw [hc] at hp
          simp only [cond_true, dopRun, evTmp] at hp
          simp only [Bool.and_eq_true, Nat.blt_eq, Nat.ble_eq] at hc
          obtain ⟨g1, g2⟩ := guard_sound k hj hgd hc.1 hc.2
          cases hv : T.get .bad (pa d) (trimR r (readsOf all o)) <;> rw [hv] at hp <;> simp only at hp <;> try (exact hp.elim)
          · rename_i b
            have hy := g1 b hv
            cases hb : (bif want then b else !b) with
            | true =>
              rw [hb] at hp
              simp only [cond_true] at hp
              refine wanted hp ?_
              simp only [Region.wanted, hg, hy]
              cases want <;> cases b <;> simp_all
            | false =>
              rw [hb] at hp
              simp only [cond_false] at hp
              refine unwanted hp ?_
              simp only [Region.wanted, hg, hy]
              cases want <;> cases b <;> simp_all
          · rename_i vs
            have hy := g2 vs hv
            refine unwanted hp ?_
            simp only [Region.wanted, hg, hy]
            rfl

theorem dop_sound {rd : Option Nat} {w0 : Fr} {E : Env} {h h' : Heap} {w : World} {call : CallF} (hN : NamesOk P) (hcall : CallOk P call) (hbody : CallBody P call) {all : Array Oper} {i : Nat} {o : Oper} (hi : all[i]? = some o) {nt : Nat} {r : Regs} {a : Act} {v : V}
    (he : (dopC P nt all o).run call r h = .val v h') (hsize : a.tmps.size = nt) (hreads : ∀ t ∈ readsOf all o, Rel E (T.get .bad (pa t) r) (a.tmps.getD t undef)) (s : Sim w0 E h w)
    {K : Act → World → Prop} {Q : Exit → Act → World → Prop} (hK : ∀ E' x w', E.le E' → Rel E' v x → Sim w0 E' h' w' → K (a.put o.dst x) w') : wpOpIn (Wd rd) 0 P all Q i K a w :=
  dop_post hN hcall hbody hi (dopC_fine he) hsize hreads s (by rw [he]; exact hK)

theorem dop_pan {rd : Option Nat} {w0 : Fr} {E : Env} {h h' : Heap} {w : World} {call : CallF} (hN : NamesOk P) (hcall : CallOk P call) (hbody : CallBody P call) {all : Array Oper} {i : Nat} {o : Oper} (hi : all[i]? = some o) {nt : Nat} {r : Regs} {a : Act} {v : V}
    (he : (dopC P nt all o).run call r h = .pan v h') (hm : mayPan o.op = true) (hsize : a.tmps.size = nt) (hreads : ∀ t ∈ readsOf all o, Rel E (T.get .bad (pa t) r) (a.tmps.getD t undef)) (s : Sim w0 E h w)
    {K : Act → World → Prop} {Q : Exit → Act → World → Prop} (hQ : ∀ E' x w', E.le E' → Rel E' v x → Sim w0 E' h' w' → Q (.panic (panic1 x)) a w') : wpOpIn (Wd rd) 0 P all Q i K a w :=
  dop_post hN hcall hbody hi (dopC_fine' he) hsize hreads s (by rw [he]; exact ⟨hm, hQ⟩)

theorem dop_quiet {nt : Nat} {all : Array Oper} {o : Oper} {call : CallF} {r : Regs} {h h' : Heap} {v : V} (hq : isEff P o.op = false) (he : (dopC P nt all o).run call r h = .val v h') :
    h' = h ∧ (looks o.op = false → ∀ H, (dopC P nt all o).run call r H = .val v H) := by
  obtain ⟨hd, hs⟩ := dopC_fine he
  have e0 : (dstFine nt o.dst && smallT (readsOf all o)) = true := by rw [hd, hs]; rfl
  have key : dopC P nt all o = (match o.guard with
    | none => ⟨dopRun none (cop P o) (readsOf all o)⟩
    | some (j, want) => match all[j]? with
      | some g => match g.dst with
        | some d => bif Nat.blt d nt && Nat.ble d top then ⟨dopRun (some (evTmp (pa d), want)) (cop P o) (readsOf all o)⟩ else OpC.none
        | none => OpC.none
      | none => OpC.none) := by
    unfold dopC; rw [e0]; rfl
  rw [key] at he ⊢
  cases hg : o.guard with
  | none =>
    rw [hg] at he
    exact ⟨cop_quiet hq he, fun hl H => cop_pure hq hl he H⟩
  | some jw =>
    obtain ⟨j, want⟩ := jw
    rw [hg] at he
    simp only at he ⊢
    cases hj : all[j]? with
    | none => rw [hj] at he; simp [OpC.none] at he
    | some g =>
      rw [hj] at he
      simp only at he ⊢
      cases hgd : g.dst with
      | none => rw [hgd] at he; simp [OpC.none] at he
      | some d =>
        rw [hgd] at he
        simp only at he ⊢
        cases hc : (Nat.blt d nt && Nat.ble d top) with
        | false => rw [hc] at he; simp [OpC.none] at he
        | true =>
          rw [hc] at he
          simp only [cond_true, dopRun] at he ⊢
          cases hv : (evTmp (pa d)).run (trimR r (readsOf all o)) <;> rw [hv] at he <;> simp only at he ⊢ <;> try (cases he; done)
          · rename_i b
            cases hb : (bif want then b else !b) <;> rw [hb] at he <;> simp only [cond_true, cond_false] at he ⊢
            · simp only [OR.val.injEq] at he ⊢
              exact ⟨he.2.symm, fun _ H => ⟨he.1, trivial⟩⟩
            · exact ⟨cop_quiet hq he, fun hl H => cop_pure hq hl he H⟩
          · simp only [OR.val.injEq] at he ⊢
            exact ⟨he.2.symm, fun _ H => ⟨he.1, trivial⟩⟩

theorem askAgain_mem {op : OpC} {call : CallF} {es : List Ent} {hf : Heap} {r : Regs} {v : V} : ∀ {ss : List Nat}, askAgain op call es hf r v ss = true → ∀ s ∈ ss, ∃ h', op.run call r (heapAt es hf s) = .val v h'
  | [], _, s, h => by simp at h
  | s' :: ss, he, s, hm => by
    simp only [askAgain, Bool.and_eq_true] at he
    simp only [List.mem_cons] at hm
    rcases hm with rfl | hm
    · have h1 := he.1
      cases hr : op.run call r (heapAt es hf s) with
      | fail => rw [hr] at h1; cases h1
      | pan _ _ => rw [hr] at h1; cases h1
      | val v' h' =>
        rw [hr] at h1
        rw [eqV_eq h1]
        exact ⟨h', rfl⟩
    · exact askAgain_mem he.2 s hm

theorem asksC_spec {nt : Nat} {all : Array Oper} {masks poss starts : List Nat} {call : CallF} {es : List Ent} {hf : Heap} : ∀ {l : List Oper} {i : Nat}, (asksC P nt all masks poss starts i l).run call es hf = true →
    ∀ j o, l[j]? = some o → looks o.op = true → isEff P o.op = false → ∀ e, es[posOf poss (i + j)]? = some e → ∀ s ∈ starts, mayStand P masks all.toList poss (i + j) ((masks[i + j]?).getD 0) s = true → ∃ h', (dopC P nt all o).run call e.r (heapAt es hf s) = .val e.v h'
  | [], _, _, j, o, ho, _, _ => by simp at ho
  | o' :: os, i, he, j, o, ho, hl, hq => by
    simp only [asksC] at he
    cases j with
    | zero =>
      simp only [List.getElem?_cons_zero, Option.some.injEq] at ho
      subst ho
      rw [hl, hq] at he
      simp only [Bool.not_false, Bool.and_true, cond_true, Bool.and_eq_true, askOne] at he
      have h1 := he.1
      intro e hes s hs hm
      · rw [Nat.add_zero] at hes
        rw [hes] at h1
        exact askAgain_mem h1 s (List.mem_filter.2 ⟨hs, by simpa using hm⟩)
    | succ j =>
      have rest : (asksC P nt all masks poss starts (i + 1) os).run call es hf = true := by
        cases hc : (looks o'.op && !isEff P o'.op) with
        | false => rw [hc] at he; exact he
        | true => rw [hc] at he; simp only [cond_true, Bool.and_eq_true] at he; exact he.2
      have := asksC_spec rest j o (by simpa using ho) hl hq
      rw [show i + (j + 1) = i + 1 + j from by omega]
      exact this

theorem levelStarts_mem {poss : List Nat} : ∀ {l : List Oper} {i j : Nat} {o : Oper}, l[j]? = some o → isChain P o = true → posOf poss (i + j) ∈ levelStarts P poss i l
  | [], _, j, o, h, _ => by simp at h
  | o' :: os, i, j, o, h, he => by
    simp only [levelStarts]
    cases j with
    | zero =>
      simp only [List.getElem?_cons_zero, Option.some.injEq] at h
      subst h
      rw [he]
      simp
    | succ j =>
      have := levelStarts_mem (poss := poss) (i := i + 1) (by simpa using h) he
      rw [show i + (j + 1) = i + 1 + j from by omega]
      cases isChain P o' with
      | true => simp [this]
      | false => exact this

theorem levelStarts_end {poss : List Nat} : ∀ {l : List Oper} {i : Nat}, i + l.length ∈ levelStarts P poss i l
  | [], _ => by simp [levelStarts]
  | o :: os, i => by
    have := levelStarts_end (poss := poss) (l := os) (i := i + 1)
    simp only [levelStarts, List.length_cons]
    rw [show i + (os.length + 1) = i + 1 + os.length from by omega]
    cases isChain P o with
    | true => simp [this]
    | false => exact this

theorem levelStarts_spec {poss : List Nat} : ∀ {l : List Oper} {i s : Nat}, s ∈ levelStarts P poss i l → s = i + l.length ∨ ∃ j o, l[j]? = some o ∧ isChain P o = true ∧ s = posOf poss (i + j)
  | [], i, s, h => by simp only [levelStarts, List.mem_singleton] at h; exact .inl (by simpa using h)
  | o :: os, i, s, h => by
    simp only [levelStarts] at h
    have rest : s ∈ levelStarts P poss (i + 1) os → s = i + (o :: os).length ∨ ∃ j o', (o :: os)[j]? = some o' ∧ isChain P o' = true ∧ s = posOf poss (i + j) := by
      intro h
      rcases levelStarts_spec h with h | ⟨j, o', h1, h2, h3⟩
      · exact .inl (by simp only [List.length_cons]; omega)
      · exact .inr ⟨j + 1, o', by simpa using h1, h2, by rw [h3]; congr 1; omega⟩
    cases hc : isChain P o with
    | true =>
      rw [hc] at h
      simp only [cond_true, List.mem_cons] at h
      rcases h with h | h
      · exact .inr ⟨0, o, rfl, hc, h⟩
      · exact rest h
    | false => rw [hc] at h; exact rest h

/-! What just makes a new block, in a drawn region. -/
theorem cond_run {c : Bool} {f : V → V → Heap → OR} {x y v : V} {h h' : Heap} (he : (bif c then (⟨f⟩ : AppC) else ⟨fun _ _ _ => .fail⟩).run x y h = .val v h') : c = true ∧ f x y h = .val v h' := by
  cases c with
  | true => exact ⟨rfl, he⟩
  | false => cases he
theorem cop_shape {o : Oper} {call : CallF} {r : Regs} {h h' : Heap} {v : V} (ha : isAlloc o = true) (he : (cop P o).run call r h = .val v h') : ∃ k, h' = h.new k ∧ True := by
  have cells : ∀ {vs : List V} {h1 : Heap}, newCells h vs = some h1 → ∃ k, h1 = h.new k ∧ True := by
    intro vs h1 he
    unfold newCells at he
    obtain ⟨hc, he⟩ := cond_some he
    cases he
    exact ⟨_, rfl, trivial⟩
  obtain ⟨dst, op, type, pos, after, guard⟩ := o
  cases op <;> simp only [isAlloc] at ha <;> try (cases ha; done)
  all_goals simp only [cop] at he
  case alloc t =>
    cases ht : tiOf P t with
    | none => rw [ht] at he; simp [OpC.none] at he
    | some ti =>
      rw [ht] at he
      simp only at he
      cases hz : ti.zero with
      | none => rw [hz] at he; simp [OpC.none] at he
      | some z =>
        rw [hz] at he
        simp only at he
        cases hn : newCells h z.cells with
        | none => rw [hn] at he; cases he
        | some h1 =>
          rw [hn] at he
          simp only [orHeap, OR.val.injEq] at he; obtain ⟨_, rfl⟩ := he
          exact cells hn
  case box t x =>
    obtain ⟨hg, he⟩ := cond_val he
    cases hn : newCells h ((evC x).run r).cells with
    | none => rw [hn] at he; cases he
    | some h1 =>
      rw [hn] at he
      simp only [orHeap, OR.val.injEq] at he; obtain ⟨_, rfl⟩ := he
      exact cells hn
  case buildSlice t n ps =>
    unfold buildSliceC at he
    cases ht : tiOf P t with
    | none => rw [ht] at he; cases he
    | some ti =>
      rw [ht] at he
      simp only at he
      cases hund : ti.und <;> rw [hund] at he <;> simp only at he <;> try (cases he; done)
      rename_i e
      cases hte : tiOf P e with
      | none => rw [hte] at he; cases he
      | some ei =>
        rw [hte] at he
        simp only at he
        cases hz : ei.zero with
        | none => rw [hz] at he; cases he
        | some z =>
          rw [hz] at he
          simp only at he
          cases hc : (Nat.ble (n * ei.size) 1000000 && Nat.beq z.cells.length ei.size) with
          | false => rw [hc] at he; cases he
          | true =>
            rw [hc] at he
            simp only [cond_true] at he
            cases hf : fillV (fun i => some (i * ei.size, ei.size)) (repeatV z.cells n) ((partsC ps.toList).run r) with
            | none => rw [hf] at he; cases he
            | some cs =>
              rw [hf] at he
              simp only at he
              cases hn : newCells h cs with
              | none => rw [hn] at he; cases he
              | some h1 =>
                rw [hn] at he
                simp only [OR.val.injEq] at he
                obtain ⟨_, rfl⟩ := he
                exact cells hn
  case makeSlice t l c =>
    unfold makeSliceC at he
    split at he
    rotate_left
    · cases he
    split at he
    rotate_left
    · cases he
    split at he
    rotate_left
    · cases he
    split at he
    rotate_left
    · cases he
    obtain ⟨_, he⟩ := cond_run he
    simp only [makeSliceV] at he
    obtain ⟨_, _, _, he⟩ := onInt_val he
    obtain ⟨_, _, _, he⟩ := onInt_val he
    obtain ⟨_, he⟩ := cond_val he
    split at he
    · rename_i hn
      simp only [OR.val.injEq] at he
      obtain ⟨_, rfl⟩ := he
      exact cells hn
    · cases he
  case makeMap t x =>
    cases x with
    | some _ => cases ha
    | none =>
      simp only [optC, makeMapC] at he
      cases ht : tiOf P t with
      | none => rw [ht] at he; cases he
      | some ti =>
        rw [ht] at he
        simp only at he
        cases hb : Nat.beq (nilKindD ti.und) 3 with
        | false => rw [hb] at he; cases he
        | true =>
          rw [hb] at he
          simp only [cond_true, makeMapV, newMap] at he
          simp only [OR.val.injEq] at he
          exact ⟨_, he.2.symm, trivial⟩

theorem isAlloc_eff {o : Oper} (ha : isAlloc o = true) : isEff P o.op = true := by
  obtain ⟨dst, op, type, pos, after, guard⟩ := o
  cases op <;> simp only [isAlloc] at ha <;> first | (cases ha; done) | rfl

/-- an operation is wanted, or it is passed by -/
theorem dop_split {nt : Nat} {all : Array Oper} {o : Oper} {call : CallF} {r : Regs} {h h' : Heap} {v : V} (he : (dopC P nt all o).run call r h = .val v h') :
    ((cop P o).run call (trimR r (readsOf all o)) h = .val v h' ∧ ∀ E a, RegRel0 E nt (trimR r (readsOf all o)) a → Region.wanted o (yielded all a.tmps) = true) ∨
    (h' = h ∧ ∀ H, (dopC P nt all o).run call r H = .val v H) := by
  obtain ⟨hd, hs⟩ := dopC_fine he
  have e0 : (dstFine nt o.dst && smallT (readsOf all o)) = true := by rw [hd, hs]; rfl
  have key : dopC P nt all o = (match o.guard with
    | none => ⟨dopRun none (cop P o) (readsOf all o)⟩
    | some (j, want) => match all[j]? with
      | some g => match g.dst with
        | some d => bif Nat.blt d nt && Nat.ble d top then ⟨dopRun (some (evTmp (pa d), want)) (cop P o) (readsOf all o)⟩ else OpC.none
        | none => OpC.none
      | none => OpC.none) := by
    unfold dopC; rw [e0]; rfl
  rw [key] at he ⊢
  cases hg : o.guard with
  | none =>
    rw [hg] at he
    exact .inl ⟨he, fun E a _ => by simp [Region.wanted, hg]⟩
  | some jw =>
    obtain ⟨j, want⟩ := jw
    rw [hg] at he
    simp only at he ⊢
    cases hj : all[j]? with
    | none => rw [hj] at he; simp [OpC.none] at he
    | some g =>
      rw [hj] at he
      simp only at he ⊢
      cases hgd : g.dst with
      | none => rw [hgd] at he; simp [OpC.none] at he
      | some d =>
        rw [hgd] at he
        simp only at he ⊢
        cases hc : (Nat.blt d nt && Nat.ble d top) with
        | false => rw [hc] at he; simp [OpC.none] at he
        | true =>
          rw [hc] at he
          simp only [cond_true, dopRun] at he ⊢
          have hc' := hc
          simp only [Bool.and_eq_true, Nat.blt_eq, Nat.ble_eq] at hc'
          cases hv : (evTmp (pa d)).run (trimR r (readsOf all o)) <;> rw [hv] at he <;> simp only at he ⊢ <;> try (cases he; done)
          · rename_i b
            cases hb : (bif want then b else !b) <;> rw [hb] at he <;> simp only [cond_true, cond_false] at he ⊢
            · simp only [OR.val.injEq] at he ⊢
              exact .inr ⟨he.2.symm, fun H => ⟨he.1, trivial⟩⟩
            · refine .inl ⟨he, fun E a k => ?_⟩
              obtain ⟨g1, _⟩ := guard_sound k hj hgd hc'.1 hc'.2
              have hy := g1 b hv
              simp only [Region.wanted, hg, hy]
              cases want <;> cases b <;> simp_all
          · simp only [OR.val.injEq] at he ⊢
            exact .inr ⟨he.2.symm, fun H => ⟨he.1, trivial⟩⟩

theorem dop_shape {nt : Nat} {all : Array Oper} {o : Oper} {call : CallF} {r : Regs} {h h' : Heap} {v : V} (ha : isAlloc o = true) (he : (dopC P nt all o).run call r h = .val v h') :
    (∃ k, h' = h.new k ∧ True) ∨ (h' = h ∧ ∀ H, (dopC P nt all o).run call r H = .val v H) := by
  rcases dop_split he with ⟨h1, _⟩ | h1
  · exact .inl (cop_shape ha h1)
  · exact .inr h1

/-- the world makes the block that the machine holds already -/
theorem dop_link {rd : Option Nat} {F : Fr} {E : Env} {h h' H : Heap} {w : World} {call : CallF} {all : Array Oper} {i : Nat} {o : Oper} (hi : all[i]? = some o) (ha : isAlloc o = true) {nt : Nat} {r : Regs} {a : Act} {v : V}
    (he : (dopC P nt all o).run call r h = .val v h') (hsize : a.tmps.size = nt) (hreads : ∀ t ∈ readsOf all o, Rel E (T.get .bad (pa t) r) (a.tmps.getD t undef)) (s : Sim F E H w)
    (hmade : h'.next ≠ h.next) (hp : F.pend (pa h.next) = some (h'.get (pa h.next)))
    {K : Act → World → Prop} {Q : Exit → Act → World → Prop} (hK : ∀ E' x w', E.le E' → Rel E' v x → Sim (F.free (pa h.next)) E' H w' → K (a.put o.dst x) w') : wpOpIn (Wd rd) 0 P all Q i K a w := by
  obtain ⟨hd, hs⟩ := dopC_fine he
  have k : RegRel0 E nt (trimR r (readsOf all o)) a := ⟨hsize, fun t ht => by
    rw [trimR_get hs ht]
    by_cases hm : t ∈ readsOf all o
    · rw [if_pos hm]; exact hreads t hm
    · rw [if_neg hm]; simp [Rel]⟩
  obtain ⟨he', hw⟩ : (cop P o).run call (trimR r (readsOf all o)) h = .val v h' ∧ Region.wanted o (yielded all a.tmps) = true := by
    rcases dop_split he with ⟨h1, h2⟩ | ⟨h1, _⟩
    · exact ⟨h1, h2 E a k⟩
    · exact absurd (by rw [h1]) hmade
  obtain ⟨m, hx, kk, q1, q2, q3⟩ := cop_makes ha he' k
  simp only [wpOpIn, hi, hw, if_true]
  obtain ⟨X, ob, p1, p2⟩ := q3 w
  rw [q1, Heap.get_new, if_pos rfl] at hp
  have hput : E.put (pa h.next) ⟨w.heap.size, 0, 0⟩ (pa h.next) = some ⟨w.heap.size, 0, 0⟩ := by unfold Env.put; rw [if_pos rfl]
  have hle : E.le (E.put (pa h.next) ⟨w.heap.size, 0, 0⟩) := Env.le_put (s.pen _ _ hp).2.1
  obtain ⟨r1, r2⟩ := p2 _ hle hput
  have hsz : F.w.heap.size ≤ w.heap.size := s.frame.size
  obtain ⟨_, hl2⟩ := s.link hp (o := ob) (r2 _ hsz)
  refine ⟨fun _ _ => trivial, ?_⟩
  rw [semAt_wd (by intro c h; have := ha; unfold isAlloc at this; rw [h] at this; cases this), hx, Sem.run_bind, p1]
  exact hK _ X _ hle r1 hl2
end
end Go.Proofs.YtpfmfpakbfkfoaaGreatDoor.Am

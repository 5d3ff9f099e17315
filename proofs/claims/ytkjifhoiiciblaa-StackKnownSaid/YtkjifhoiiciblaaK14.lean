/- The abstract machine, part K14 (a verified interpreter of the model's code: plain definitions and lemmas, no condition). -/
import Derived.Test.YtkjifhoiiciblaaK13
namespace Go.Proofs.Ytkjifhoiiciblaa.Am
open Go Go.RowKit

section
variable {P : Program}

theorem run_mapM_list {α β : Type} (g : α → Sem β) (k : α → β) (w : World) : ∀ (l : List α), (∀ x ∈ l, (g x).run P w = .ok (k x) w) → (l.mapM g).run P w = .ok (l.map k) w
  | [], _ => by simp
  | x :: l, h => by
    rw [List.mapM_cons, Sem.run_bind, h x (by simp)]
    simp only [Result.andThen_ok, Sem.run_bind, run_mapM_list g k w l (fun y hy => h y (by simp [hy])), Sem.run_pure, List.map]

theorem buildC_sound {E : Env} {t : TypeId} {ps : List (Nat × V)} {qs : List (Nat × Value)} {v : V} (hp : RelP E ps qs) (he : (buildC P t).run ps = some v) (w : World) :
    ∃ Z, (Instr.build t qs.toArray).run P w = .ok Z w ∧ Rel E v Z := by
  unfold buildC at he
  cases ht : tiOf P t with
  | none => rw [ht] at he; cases he
  | some ti =>
    rw [ht] at he
    simp only at he
    cases hz : ti.zero with
    | none => rw [hz] at he; cases he
    | some z =>
      rw [hz] at he
      simp only at he
      obtain ⟨x, hx, hxr, hzx⟩ := run_zero (P := P) ht hz E w
      have hu := run_und ht w
      have hzc : RelL E z.cells x.cells.toList := by
        rw [hzx]
        have : ∀ y : Value, RelL E (ofVal y).cells y.cells.toList := by
          intro y
          cases y with
          | agg cs => simp only [ofVal, V.cells, Value.cells]; exact ofVals_rel E _
          | pointer a => cases a <;> simp [ofVal, ofVal1, V.cells, Value.cells, RelL, Rel]
          | slice a n c =>
            have := ofVal_rel E (.slice a n c)
            cases a with
            | some a => simp [ofVal, ofVal1, V.cells, Value.cells, RelL, Rel]
            | none =>
              simp only [ofVal, ofVal1] at this ⊢
              cases hb : (Nat.beq n 0 && Nat.beq c 0) with
              | false => simp [V.cells, Value.cells, RelL, Rel]
              | true => rw [hb] at this; simpa [V.cells, Value.cells, RelL] using this
          | map r => cases r <;> simp [ofVal, ofVal1, V.cells, Value.cells, RelL, Rel]
          | tuple cs =>
            have := ofVal_rel E (.tuple cs)
            simp only [ofVal, V.cells, Value.cells, RelL] at this ⊢
            exact ⟨_, _, rfl, this, rfl⟩
          | _ => simp [ofVal, ofVal1, V.cells, Value.cells, RelL, Rel]
        exact this x
      cases hund : ti.und with
      | struct fs =>
        rw [hund] at he hu
        simp only at he
        cases hk : fieldsKnown P fs.toList with
        | false => rw [hk] at he; cases he
        | true =>
          rw [hk] at he
          simp only [cond_true] at he
          cases hf : fillV (fieldPlaceD P fs) z.cells ps with
          | none => rw [hf] at he; cases he
          | some cs =>
            rw [hf] at he
            simp only [Option.some.injEq] at he
            subst he
            let k : Field → Nat × Nat := fun f => (f.offset, ((tiOf P f.type).map (·.size)).getD 0)
            have hmap : (fs.mapM fun f => do pure (f.offset, ← sizeOf f.type) : Sem (Array (Nat × Nat))).run P w = .ok (fs.map k) w := by
              rw [Array.mapM_eq_mapM_toList, Sem.run_map, run_mapM_list _ k w fs.toList]
              · simp only [Result.andThen_ok]
                congr 1
                apply Array.ext'
                simp
              · intro f hf2
                have := List.all_eq_true.1 hk f hf2
                cases htf : tiOf P f.type with
                | none => rw [htf] at this; simp at this
                | some fi => simp only [Sem.run_bind, run_size htf, Result.andThen_ok, Sem.run_pure, k, htf]; rfl
            have hplace : (fun i => (fs.map k)[i]?) = fieldPlaceD P fs := by
              funext i
              simp only [fieldPlaceD, Array.getElem?_map]
              cases hi : fs[i]? with
              | none => rfl
              | some f =>
                have hmem : f ∈ fs.toList := by
                  have := List.mem_of_getElem? (l := fs.toList) (i := i) (a := f) (by simpa using hi)
                  exact this
                have := List.all_eq_true.1 hk f hmem
                cases htf : tiOf P f.type with
                | none => rw [htf] at this; simp at this
                | some fi => simp [k, htf]
            obtain ⟨b, hb1, hb2⟩ := fillV_sound (a := x.cells) hp hzc hf
            refine ⟨.agg b, ?_, by simp only [Rel]; exact ⟨b, rfl, hb2⟩⟩
            simp only [Instr.build, Sem.run_bind, hx, hu, Result.andThen_ok, hmap]
            rw [hplace]
            simp only [hb1, Sem.run_pure]
      | array n e =>
        rw [hund] at he hu
        simp only at he
        cases hte : tiOf P e with
        | none => rw [hte] at he; cases he
        | some ei =>
          rw [hte] at he
          simp only at he
          cases hf : fillV (fun i => some (i * ei.size, ei.size)) z.cells ps with
          | none => rw [hf] at he; cases he
          | some cs =>
            rw [hf] at he
            simp only [Option.some.injEq] at he
            subst he
            obtain ⟨b, hb1, hb2⟩ := fillV_sound (a := x.cells) hp hzc hf
            refine ⟨.agg b, ?_, by simp only [Rel]; exact ⟨b, rfl, hb2⟩⟩
            simp only [Instr.build, Sem.run_bind, hx, hu, Result.andThen_ok, run_size hte, hb1, Sem.run_pure]
      | _ => rw [hund] at he; cases he

theorem repeat_rel {E : Env} {z : List V} {l : Array Value} (hz : RelL E z l.toList) : ∀ n : Nat, RelL E (repeatV z n) ((Array.range (n * l.size)).map (l[· % l.size]!)).toList := by
  have hself : (List.range l.size).map (l[· % l.size]!) = l.toList := by
    apply List.ext_getElem?
    intro i
    simp only [List.getElem?_map]
    by_cases hi : i < l.size
    · rw [List.getElem?_range hi]
      simp only [Option.map, Nat.mod_eq_of_lt hi, Array.getElem?_toList]
      rw [getElem!_pos l i hi, Array.getElem?_eq_getElem hi]
    · rw [List.getElem?_eq_none (by simp; omega), Array.getElem?_toList, Array.getElem?_eq_none (by omega)]
      rfl
  intro n
  simp only [Array.toList_map, Array.toList_range]
  induction n with
  | zero => simp [repeatV, RelL]
  | succ n ih =>
    have e : (n + 1) * l.size = l.size + n * l.size := by rw [Nat.add_mul]; omega
    rw [e, List.range_add, List.map_append, hself, List.map_map]
    have e2 : ((l[· % l.size]!) ∘ fun x => l.size + x) = (l[· % l.size]!) := by
      funext x
      simp
    rw [e2]
    exact hz.append ih

theorem zero_cells {E : Env} {t : TypeId} {ti : TI} {z : V} (ht : tiOf P t = some ti) (hz : ti.zero = some z) (w : World) : ∃ x : Value, (∀ w, (zeroValue t).run P w = .ok x w) ∧ RelL E z.cells x.cells.toList ∧ x.cells.size = z.cells.length := by
  obtain ⟨x, hx, _, hzx⟩ := run_zero (P := P) ht hz E w
  obtain ⟨i, h1, _, _, _, _, h6⟩ := tiOf_spec ht
  rw [hz] at h6
  have hzi : ∃ y, i.zero = some y := by cases hq : i.zero with | none => rw [hq] at h6; cases h6 | some y => exact ⟨y, rfl⟩
  obtain ⟨y, hy⟩ := hzi
  have hrun : ∀ w, (zeroValue t).run P w = .ok y w := fun w => by simp only [zeroValue, Sem.run_bind, run_typeInfo_some h1, Result.andThen_ok, hy]; rfl
  have hxy : y = x := by have := hrun w; rw [hx] at this; simp at this; exact this.symm
  subst hxy
  refine ⟨_, hrun, ?_, ?_⟩
  · rw [hzx]
    have : ∀ y : Value, RelL E (ofVal y).cells y.cells.toList := by
      intro y
      cases y with
      | agg cs => simp only [ofVal, V.cells, Value.cells]; exact ofVals_rel E _
      | pointer a => cases a <;> simp [ofVal, ofVal1, V.cells, Value.cells, RelL, Rel]
      | slice a n c =>
        have := ofVal_rel E (.slice a n c)
        cases a with
        | some a => simp [ofVal, ofVal1, V.cells, Value.cells, RelL, Rel]
        | none =>
          simp only [ofVal, ofVal1] at this ⊢
          cases hb : (Nat.beq n 0 && Nat.beq c 0) with
          | false => simp [V.cells, Value.cells, RelL, Rel]
          | true => rw [hb] at this; simpa [V.cells, Value.cells, RelL] using this
      | map r => cases r <;> simp [ofVal, ofVal1, V.cells, Value.cells, RelL, Rel]
      | tuple cs =>
        have := ofVal_rel E (.tuple cs)
        simp only [ofVal, V.cells, Value.cells, RelL] at this ⊢
        exact ⟨_, _, rfl, this, rfl⟩
      | _ => simp [ofVal, ofVal1, V.cells, Value.cells, RelL, Rel]
    exact this _
  · rw [hzx, ofVal_cells_length]

theorem buildSliceC_sound {w0 : World} {E : Env} {h h' : Heap} {w : World} (s : Sim w0 E h w) {t : TypeId} {n : Nat} {ps : List (Nat × V)} {qs : List (Nat × Value)} {v : V} (hp : RelP E ps qs) (he : (buildSliceC P t n).run ps h = .val v h') :
    Gives w0 P E w (Instr.buildSlice t n qs.toArray) v h' := by
  unfold buildSliceC at he
  cases ht : tiOf P t with
  | none => rw [ht] at he; cases he
  | some ti =>
    rw [ht] at he
    simp only at he
    have hu := run_und ht
    cases hund : ti.und with
    | slice e =>
      rw [hund] at he hu
      simp only at he
      cases hte : tiOf P e with
      | none => rw [hte] at he; cases he
      | some ei =>
        rw [hte] at he
        simp only at he
        cases hz : ei.zero with
        | none => rw [hz] at he; cases he
        | some z =>
          rw [hz] at he
          simp only at he
          cases hc : (Nat.ble (n * ei.size) 1000000 && Nat.beq z.cells.length ei.size) with
          | false => rw [hc] at he; cases he
          | true =>
            rw [hc] at he
            simp only [cond_true] at he
            simp only [Bool.and_eq_true, Nat.ble_eq, Nat.beq_eq] at hc
            cases hf : fillV (fun i => some (i * ei.size, ei.size)) (repeatV z.cells n) ps with
            | none => rw [hf] at he; cases he
            | some cs =>
              rw [hf] at he
              simp only at he
              cases hn : newCells h cs with
              | none => rw [hn] at he; cases he
              | some h1 =>
                rw [hn] at he
                simp only [OR.val.injEq] at he
                obtain ⟨rfl, rfl⟩ := he
                obtain ⟨x, hx, hxr, hxs⟩ := zero_cells (P := P) (E := E) hte hz w
                have hxs' : x.cells.size = ei.size := by rw [hxs, hc.2]
                have hrep := repeat_rel hxr n
                rw [hxs'] at hrep
                obtain ⟨b, hb1, hb2⟩ := fillV_sound (a := (Array.range (n * ei.size)).map (x.cells[· % x.cells.size]!)) hp (by rw [hxs']; exact hrep) hf
                obtain ⟨E', g1, g2, g3, g4⟩ := newCells_sound (P := P) s hb2 hn e
                refine ⟨.slice (some ⟨w.heap.size, 0, none⟩) n n, _, E', ?_, g1, ?_, g4⟩
                · have hlim : ¬ 16777216 < n * ei.size := by omega
                  have hg3 : (newRow e b).run P w = .ok ⟨w.heap.size, 0, none⟩ { w with heap := w.heap.push (.cells b e) } := by simpa using g3
                  by_cases h0 : n * ei.size = 0
                  · have hb1' : Instr.fill (fun i => some (i * ei.size, ei.size)) ((Array.range (n * ei.size)).map ((#[] : Array Value)[· % 0]!)) qs = some b := by
                      have e1 : (Array.range (n * ei.size)).map ((#[] : Array Value)[· % 0]!) = (Array.range (n * ei.size)).map (x.cells[· % x.cells.size]!) := by
                        rw [h0]; simp
                      rw [e1]; exact hb1
                    have hb1'' : Instr.fill (fun i => some (i * ei.size, ei.size)) ((Array.range (n * ei.size)).map (fun x => (#[] : Array Value)[x % (#[] : Array Value).size]!)) qs = some b := hb1'
                    simp only [Instr.buildSlice, Sem.run_bind, hu, Result.andThen_ok, run_size hte, Sem.run_ite]
                    rw [if_neg hlim]
                    simp only [Sem.run_pure, Result.andThen_ok, if_pos h0]
                    rw [hb1'']
                    simp only [Sem.run_bind, hg3, Result.andThen_ok, Sem.run_pure]
                  · simp only [Instr.buildSlice, Sem.run_bind, hu, Result.andThen_ok, run_size hte, Sem.run_ite]
                    rw [if_neg hlim]
                    simp only [Sem.run_pure, Result.andThen_ok, if_neg h0, hx]
                    rw [hb1]
                    simp only [Sem.run_bind, hg3, Result.andThen_ok, Sem.run_pure]
                · simp only [Rel]
                  exact ⟨_, g2, Nat.le_refl _, by simp⟩
    | _ => rw [hund] at he; cases he

theorem makeSliceC_sound {w0 : World} {E : Env} {h h' : Heap} {w : World} (s : Sim w0 E h w) {t : TypeId} {x y v : V} {X Y : Value} (hx : Rel E x X) (hy : Rel E y Y) (he : (makeSliceC P t).run x y h = .val v h') :
    Gives w0 P E w (Instr.makeSlice t X Y) v h' := by
  unfold makeSliceC at he
  cases ht : tiOf P t with
  | none => rw [ht] at he; cases he
  | some ti =>
    rw [ht] at he
    simp only at he
    have hu := run_und ht
    cases hund : ti.und with
    | slice e =>
      rw [hund] at he hu
      simp only at he
      cases hte : tiOf P e with
      | none => rw [hte] at he; cases he
      | some ei =>
        rw [hte] at he
        simp only at he
        cases hz : ei.zero with
        | none => rw [hz] at he; cases he
        | some z =>
          rw [hz] at he
          simp only at he
          cases hby : Nat.ble ei.bytes 4096 with
          | false => rw [hby] at he; cases he
          | true =>
            rw [hby] at he
            simp only [cond_true, makeSliceV] at he
            obtain ⟨k1, l, rfl, he1⟩ := onInt_val he
            obtain ⟨k2, c, rfl, he2⟩ := onInt_val he1
            have := hx.int_of; subst this
            have := hy.int_of; subst this
            obtain ⟨hc, he3⟩ := cond_val he2
            simp only [Bool.and_eq_true, leB_eq, decide_eq_true_eq, Nat.beq_eq] at hc
            obtain ⟨⟨h0, h1, h2⟩, h3⟩ := hc
            rw [Nat.ble_eq] at hby
            cases hn : newCells h (repeatV z.cells c.toNat) with
            | none => rw [hn] at he3; cases he3
            | some hh =>
              rw [hn] at he3
              simp only [OR.val.injEq] at he3
              obtain ⟨rfl, rfl⟩ := he3
              obtain ⟨xz, hxz, hxr, hxs⟩ := zero_cells (P := P) (E := E) hte hz w
              have hxs' : xz.cells.size = ei.size := by rw [hxs, h3]
              have hrep := repeat_rel hxr c.toNat
              obtain ⟨E', g1, g2, g3, g4⟩ := newCells_sound (P := P) s hrep hn e
              obtain ⟨i, hi, hib⟩ := run_bytes (P := P) hte w
              have hwl : IntKind.i64.wrap l = l := by simp only [IntKind.wrap, IntKind.bits, IntKind.signed]; simp; omega
              have hwc : IntKind.i64.wrap c = c := by simp only [IntKind.wrap, IntKind.bits, IntKind.signed]; simp; omega
              have hmul : (ei.bytes : Int) * c ≤ 4096 * 1000000 := by
                have hb : (ei.bytes : Int) ≤ 4096 := by omega
                have := Int.mul_le_mul_of_nonneg_right (c := c) hb (by omega)
                omega
              refine ⟨.slice (some ⟨w.heap.size, 0, none⟩) l.toNat c.toNat, _, E', ?_, g1, ?_, g4⟩
              · have hg3 := g3
                simp only [Array.toArray_toList] at hg3
                have c1 : ¬ c < 0 := by omega
                have c2 : ¬ ((ei.bytes : Int) * c > 281474976710656) := by omega
                have c3 : ¬ l < 0 := by omega
                have c4 : ¬ l > c := by omega
                have same : (if c.toNat * ei.size = 0 then (Array.range (c.toNat * ei.size)).map (fun x => (#[] : Array Value)[x % (#[] : Array Value).size]!) else (Array.range (c.toNat * ei.size)).map (fun x => xz.cells[x % xz.cells.size]!)) =
                    (Array.range (c.toNat * xz.cells.size)).map (xz.cells[· % xz.cells.size]!) := by
                  rw [hxs']
                  by_cases hq : c.toNat * ei.size = 0
                  · rw [hq]; simp
                  · rw [if_neg hq]
                simp only [Instr.makeSlice, Sem.run_bind, hu, Result.andThen_ok, asInt, asIntOf, Sem.run_pure, hi, hwl, hwc, hib]
                rw [if_neg (by simp only [Bool.or_eq_true, decide_eq_true_eq, not_or]; exact ⟨⟨⟨c1, c2⟩, c3⟩, c4⟩)]
                simp only [Result.andThen_ok, Sem.run_bind, run_askRoom, run_size hte]
                by_cases hq : c.toNat * ei.size = 0
                · rw [if_pos hq] at same
                  rw [if_pos hq]
                  simp only [Sem.run_pure, Result.andThen_ok, Sem.run_bind, same, hg3, Array.toArray_toList]
                · rw [if_neg hq] at same
                  rw [if_neg hq]
                  simp only [Sem.run_pure, Result.andThen_ok, Sem.run_bind, hxz, same, hg3, Array.toArray_toList]
              · simp only [Rel]
                exact ⟨_, g2, by omega, by simp⟩
    | _ => rw [hund] at he; cases he
end
end Go.Proofs.Ytkjifhoiiciblaa.Am

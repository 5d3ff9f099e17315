/- The abstract machine and its walks (a verified interpreter of the model's code: plain definitions and lemmas, no condition). -/
import Derived.Test.YtjbiefneffiogaaGreatM1
set_option linter.unusedSectionVars false
set_option linter.unusedSimpArgs false
set_option linter.unusedVariables false

namespace Go.Proofs.YtjbiefneffiogaaGreat.Am
variable [Lay]
open Go Go.RowKit
section
variable {P : Program}
theorem push_modify {α : Type} (a : Array α) (x : α) (f : α → α) : (a.push x).modify a.size f = a.push (f x) := by
  apply Array.ext_getElem?
  intro i
  rw [Array.getElem?_modify]
  simp only [Array.getElem?_push]
  by_cases h : a.size = i
  · subst h; simp
  · rw [if_neg h]
    have h' : ¬ i = a.size := fun e => h e.symm
    simp [h']
theorem convBytes_sound {w0 : Fr} {E : Env} {h h' : Heap} {w : World} (s : Sim w0 E h w) {x v : V} {X : Value} {e : TypeId} (he : convBytes.run x h = .val v h') (hx : Rel E x X) :
    ∃ st, X = .string st ∧ Gives w0 P E w (Conv.stringToBytes e st) v h' := by
  simp only [convBytes] at he
  cases x <;> simp only at he <;> try (cases he; done)
  rename_i st
  have := hx.str_of; subst this
  refine ⟨_, rfl, ?_⟩
  cases hg : newGrow h (bytesV st) 1 true with
  | none => rw [hg] at he; cases he
  | some h1 =>
    rw [hg] at he
    simp only [OR.val.injEq] at he
    obtain ⟨rfl, rfl⟩ := he
    let q : Question := .appendCap st.length 0 e
    let cap := q.cut (w.tape w.drawn q)
    have hcap : st.length ≤ cap := by show st.length ≤ st.length + _; omega
    let l : List Value := st.map fun b => Value.int .u8 b.toNat
    let rest : Array Value := Array.replicate (cap - st.length) (.int .u8 0)
    have hll : l.length = st.length := by simp [l]
    have hsize : (l.toArray ++ rest).size = cap := by simp [l, rest]; omega
    let w' : World := { w.drew with heap := w.heap.push (.cells (l.toArray ++ rest) e (cap, cap + 1)) }
    have hrun : (Conv.stringToBytes e ⟨⟨st⟩⟩).run P w = .ok (.slice (some ⟨w.heap.size, 0, none⟩) st.length cap) w' := by
      have hsz : (⟨⟨st⟩⟩ : ByteArray).size = st.length := rfl
      have hmap : ((⟨⟨st⟩⟩ : ByteArray).data.map fun b => (Value.int .u8 b.toNat : Value)) = l.toArray := by simp [l]
      simp only [Conv.stringToBytes, Sem.run_bind, run_choose, Question.forced, hsz, Bool.false_eq_true, if_false, Result.andThen_ok, newRow, run_newObj, hmap, markStringish, run_shape, Sem.run_pure]
      have hshape : ∀ (t : Nat → Question → Nat) (d : Nat) (os : Os) (o : Array (Nat × ByteArray)), World.shape? { heap := w.heap.push (.cells (l.toArray ++ Array.replicate ((Question.appendCap st.length 0 e).cut (w.tape w.drawn (.appendCap st.length 0 e)) - st.length) (.int .u8 0)) e), tape := t, drawn := d, os := os, output := o } w.heap.size = some (e, cap) := by
        intro t d os o
        simp only [World.shape?]
        rw [Array.getElem?_push, if_pos rfl]
        simp only
        rw [show (l.toArray ++ Array.replicate ((Question.appendCap st.length 0 e).cut (w.tape w.drawn (.appendCap st.length 0 e)) - st.length) (Value.int .u8 0)).size = cap from hsize]
      rw [hshape]
      simp only [run_freeze, Result.andThen_ok, World.freeze, Nat.one_ne_zero, if_false, push_modify]
      rfl
    have hrel := bytesV_rel E st
    obtain ⟨E', g1, g2, g3⟩ := newGrow_sound (w' := w') (el := e) (fz := (cap, cap + 1)) (cap := cap) (rest := rest) s hrel hg (by rw [hsize]; omega) (.inl (by rw [hsize]; exact Nat.le_refl _)) (fun h => by cases h) rfl rfl rfl rfl
    refine ⟨_, w', E', hrun, g1, ?_, g3⟩
    simp only [Rel]
    exact ⟨_, g2, by simp only; omega, by simp⟩
theorem onInt_val {v : V} {f : IntKind → Int → OR} {r : V} {h : Heap} (he : v.onInt .fail f = .val r h) : ∃ k n, v = .int k n ∧ f k n = .val r h := by
  cases v <;> simp only [V.onInt] at he <;> first
    | (cases he; done)
    | exact ⟨_, _, rfl, he⟩
theorem bytes_eta (b : ByteArray) : (⟨⟨b.data.toList⟩⟩ : ByteArray) = b := by cases b; rfl
theorem convC_sound {w0 : Fr} {E : Env} {h h' : Heap} {w : World} (s : Sim w0 E h w) {t u : TypeId} {x v : V} {X : Value} (he : (convC P t u).run x h = .val v h') (hx : Rel E x X) :
    Gives w0 P E w (convert t u X) v h' := by
  unfold convC at he
  cases ht : tiOf P t with
  | none => rw [ht] at he; cases he
  | some si =>
    cases hu : tiOf P u with
    | none => rw [ht, hu] at he; cases he
    | some di =>
      rw [ht, hu] at he
      simp only at he
      have r1 := run_und ht
      have r2 := run_und hu
      cases hd : di.und with
      | int k =>
        rw [hd] at he r2
        simp only at he
        obtain ⟨k', n, rfl, h1⟩ := onInt_val he
        simp only [OR.val.injEq] at h1
        obtain ⟨rfl, rfl⟩ := h1
        have := hx.int_of; subst this
        exact Gives.plain (Z := .int k (k.wrap n)) s (by simp only [convert, Sem.run_bind, r1, r2, Result.andThen_ok, Conv.intToInt, Sem.run_pure]) (by simp [Rel])
      | string =>
        rw [hd] at he r2
        simp only at he
        have plain : ∀ (X' : Value), (match x with
            | .str s => OR.val (.str s) h
            | .int _ n => .val (.str (Utf8.encode n).data.toList) h
            | _ => .fail) = .val v h' → Gives w0 P E w (convert t u X) v h' := by
          intro _ he
          cases x <;> simp only at he <;> try (cases he; done)
          · simp only [OR.val.injEq] at he
            obtain ⟨rfl, rfl⟩ := he
            have := hx.int_of; subst this
            rename_i k n
            refine Gives.plain (Z := .string (Utf8.encode n)) s (by simp only [convert, Sem.run_bind, r1, r2, Result.andThen_ok, Conv.intToString, Sem.run_pure]) ?_
            simp only [Rel, bytes_eta]
          · simp only [OR.val.injEq] at he
            obtain ⟨rfl, rfl⟩ := he
            have := hx.str_of; subst this
            exact Gives.plain s (by simp only [convert, Sem.run_bind, r1, r2, Result.andThen_ok, Sem.run_pure]) hx
        cases hs : si.und with
        | slice e =>
          rw [hs] at he r1
          simp only at he
          cases hte : tiOf P e with
          | none => rw [hte] at he; cases he
          | some ei =>
            rw [hte] at he
            simp only at he
            cases hei : ei.und with
            | int ke =>
              rw [hei] at he
              cases ke <;> simp only at he <;> try (cases he; done)
              have r3 := run_und hte
              rw [hei] at r3
              simp only [convStr] at he
              cases x <;> simp only at he <;> try (cases he; done)
              · rename_i b off len cap
                simp only [Rel] at hx
                obtain ⟨p, hp, _, rfl⟩ := hx
                obtain ⟨rfl, q, bs, hq, rfl, hrun⟩ := strAt_sound (P := P) (cap := cap) s ⟨p, hp⟩ he
                rw [hp] at hq; cases hq
                exact Gives.plain s (by simp only [convert, Sem.run_bind, r1, r2, r3, Result.andThen_ok]; exact hrun) (by simp [Rel])
              · rename_i b off len idx
                simp only [Rel] at hx
                obtain ⟨p, hp, _, rfl⟩ := hx
                obtain ⟨rfl, q, bs, hq, rfl, hrun⟩ := strAt_sound (P := P) (cap := p.cap - idx) s ⟨p, hp⟩ he
                rw [hp] at hq; cases hq
                exact Gives.plain s (by simp only [convert, Sem.run_bind, r1, r2, r3, Result.andThen_ok]; exact hrun) (by simp [Rel])
              · simp only [OR.val.injEq] at he
                obtain ⟨rfl, rfl⟩ := he
                simp only [Rel] at hx
                obtain ⟨ta, tc, rfl⟩ := hx
                exact Gives.plain (Z := .string ByteArray.empty) s (by simp only [convert, Sem.run_bind, r1, r2, r3, Result.andThen_ok]; rfl) (by simp only [Rel]; rfl)
              · simp only [OR.val.injEq] at he
                obtain ⟨rfl, rfl⟩ := he
                simp only [Rel] at hx
                subst hx
                exact Gives.plain (Z := .string ByteArray.empty) s (by simp only [convert, Sem.run_bind, r1, r2, r3, Result.andThen_ok]; rfl) (by simp only [Rel]; rfl)
            | _ => rw [hei] at he; cases he
        | _ => rw [hs] at he; exact plain X he
      | slice e =>
        rw [hd] at he r2
        simp only at he
        cases hte : tiOf P e with
        | none => rw [hte] at he; cases he
        | some ei =>
          rw [hte] at he
          simp only at he
          cases hei : ei.und with
          | int ke =>
            rw [hei] at he
            cases ke <;> simp only at he <;> try (cases he; done)
            have r3 := run_und hte
            rw [hei] at r3
            obtain ⟨st, rfl, Z, w', E', g1, g2⟩ := convBytes_sound (P := P) (e := e) s he hx
            exact ⟨Z, w', E', by simp only [convert, Sem.run_bind, r1, r2, r3, Result.andThen_ok]; exact g1, g2⟩
          | _ => rw [hei] at he; cases he
      | _ => rw [hd] at he; cases he
def RelP (E : Env) : List (Nat × V) → List (Nat × Value) → Prop
  | [], l => l = []
  | (i, v) :: vs, l => ∃ y ys, l = (i, y) :: ys ∧ Rel E v y ∧ RelP E vs ys
theorem fillAt_rel {E : Env} : ∀ {vs : List V} {l : List Value} {cs : List V} {a : Array Value} (off : Nat), RelL E vs l → RelL E cs a.toList → ∀ (k : Nat),
    RelL E (fillAt cs (off + k) vs) ((l.zipIdx k).foldl (fun cs (c, j) => cs.setIfInBounds (off + j) c) a).toList
  | [], l, cs, a, off, h, hc, k => by simp only [RelL] at h; subst h; simpa [fillAt] using hc
  | v :: vs, l, cs, a, off, h, hc, k => by
    simp only [RelL] at h
    obtain ⟨y, ys, rfl, hy, h⟩ := h
    simp only [fillAt, List.zipIdx_cons, List.foldl_cons]
    have := fillAt_rel (cs := cs.set (off + k) v) (a := a.setIfInBounds (off + k) y) off h (by simpa using hc.set (off + k) hy) (k + 1)
    exact this
theorem fillV_sound {E : Env} {place : Nat → Option (Nat × Nat)} : ∀ {ps : List (Nat × V)} {qs : List (Nat × Value)} {cs out : List V} {a : Array Value}, RelP E ps qs → RelL E cs a.toList →
    fillV place cs ps = some out → ∃ b, Instr.fill place a qs = some b ∧ RelL E out b.toList
  | [], qs, cs, out, a, hp, hc, h => by
    simp only [RelP] at hp; subst hp
    simp only [fillV, Option.some.injEq] at h
    subst h
    exact ⟨a, rfl, hc⟩
  | (i, v) :: ps, qs, cs, out, a, hp, hc, h => by
    simp only [RelP] at hp
    obtain ⟨y, ys, rfl, hy, hp⟩ := hp
    simp only [fillV] at h
    cases hpl : place i with
    | none => rw [hpl] at h; cases h
    | some q =>
      obtain ⟨off, size⟩ := q
      rw [hpl] at h
      simp only at h
      obtain ⟨h1, h2⟩ := cond_some h
      simp only [Bool.and_eq_true, Nat.beq_eq, Nat.ble_eq] at h1
      have hl := hy.cells (fun e => by subst e; simp [V.good] at h1)
      have hlen := hl.length
      have hcl := hc.length
      have hsz : y.cells.size = size := by have : y.cells.toList.length = v.cells.length := hlen; simp at this; omega
      have hoff : ¬ off + y.cells.size > a.size := by simp at hcl; omega
      have hf := fillAt_rel (a := a) off hl hc 0
      obtain ⟨b, hb1, hb2⟩ := fillV_sound (a := y.cells.zipIdx.foldl (fun cs (c, j) => cs.setIfInBounds (off + j) c) a) hp (by
        have e : y.cells.zipIdx.foldl (fun cs (c, j) => cs.setIfInBounds (off + j) c) a = (y.cells.toList.zipIdx 0).foldl (fun cs (c, j) => cs.setIfInBounds (off + j) c) a := by
          rw [← Array.foldl_toList]; simp
        rw [e]; exact hf) h2
      refine ⟨b, ?_, hb2⟩
      simp only [Instr.fill, hpl]
      rw [if_neg (by simp only [ne_eq, Bool.or_eq_true, decide_eq_true_eq, not_or]; exact ⟨fun e => e hsz, hoff⟩)]
      exact hb1
end
end Go.Proofs.YtjbiefneffiogaaGreat.Am

namespace Go.Proofs.YtjbiefneffiogaaGreat.Am
variable [Lay]
open Go Go.RowKit
section
variable {P : Program}
theorem run_mapM_list {α β : Type} (g : α → Sem β) (k : α → β) (w : World) : ∀ (l : List α), (∀ x ∈ l, (g x).run P w = .ok (k x) w) → (l.mapM g).run P w = .ok (l.map k) w
  | [], _ => by simp
  | x :: l, h => by
    rw [List.mapM_cons, Sem.run_bind, h x (by simp)]
    simp only [Result.andThen_ok, Sem.run_bind, run_mapM_list g k w l (fun y hy => h y (by simp [hy])), Sem.run_pure, List.map]
theorem buildC_sound {E : Env} {t : TypeId} {ps : List (Nat × V)} {qs : List (Nat × Value)} {v : V} (hp : RelP E ps qs) (he : (buildC P t).run ps = some v) (w : World) :
    ∃ Z, (Instr.build t qs.toArray).run P w = .ok Z w ∧ Rel E v Z := by
  unfold buildC at he
  cases ht : tiOf P t with
  | none => rw [ht] at he; cases he
  | some ti =>
    rw [ht] at he
    simp only at he
    cases hz : ti.zero with
    | none => rw [hz] at he; cases he
    | some z =>
      rw [hz] at he
      simp only at he
      obtain ⟨x, hx, hxr, hzx⟩ := run_zero (P := P) ht hz E w
      have hu := run_und ht w
      have hzc : RelL E z.cells x.cells.toList := by
        rw [hzx]
        have : ∀ y : Value, RelL E (ofVal y).cells y.cells.toList := by
          intro y
          cases y with
          | agg cs => simp only [ofVal, V.cells, Value.cells]; exact ofVals_rel E _
          | pointer a => cases a <;> simp [ofVal, ofVal1, V.cells, Value.cells, RelL, Rel]
          | slice a n c =>
            have := ofVal_rel E (.slice a n c)
            cases a with
            | some a => simp [ofVal, ofVal1, V.cells, Value.cells, RelL, Rel]
            | none =>
              simp only [ofVal, ofVal1] at this ⊢
              cases hb : (Nat.beq n 0 && Nat.beq c 0) with
              | false => simp [V.cells, Value.cells, RelL, Rel]
              | true => rw [hb] at this; simpa [V.cells, Value.cells, RelL] using this
          | map r => cases r <;> simp [ofVal, ofVal1, V.cells, Value.cells, RelL, Rel]
          | tuple cs =>
            have := ofVal_rel E (.tuple cs)
            simp only [ofVal, V.cells, Value.cells, RelL] at this ⊢
            exact ⟨_, _, rfl, this, rfl⟩
          | _ => simp [ofVal, ofVal1, V.cells, Value.cells, RelL, Rel]
        exact this x
      cases hund : ti.und with
      | struct fs =>
        rw [hund] at he hu
        simp only at he
        cases hk : fieldsKnown P fs.toList with
        | false => rw [hk] at he; cases he
        | true =>
          rw [hk] at he
          simp only [cond_true] at he
          cases hf : fillV (fieldPlaceD P fs) z.cells ps with
          | none => rw [hf] at he; cases he
          | some cs =>
            rw [hf] at he
            simp only [Option.some.injEq] at he
            subst he
            let k : Field → Nat × Nat := fun f => (f.offset, ((tiOf P f.type).map (·.size)).getD 0)
            have hmap : (fs.mapM fun f => do pure (f.offset, ← sizeOf f.type) : Sem (Array (Nat × Nat))).run P w = .ok (fs.map k) w := by
              rw [Array.mapM_eq_mapM_toList, Sem.run_map, run_mapM_list _ k w fs.toList]
              · simp only [Result.andThen_ok]
                congr 1
                apply Array.ext'
                simp
              · intro f hf2
                have := List.all_eq_true.1 hk f hf2
                cases htf : tiOf P f.type with
                | none => rw [htf] at this; simp at this
                | some fi => simp only [Sem.run_bind, run_size htf, Result.andThen_ok, Sem.run_pure, k, htf]; rfl
            have hplace : (fun i => (fs.map k)[i]?) = fieldPlaceD P fs := by
              funext i
              simp only [fieldPlaceD, Array.getElem?_map]
              cases hi : fs[i]? with
              | none => rfl
              | some f =>
                have hmem : f ∈ fs.toList := by
                  have := List.mem_of_getElem? (l := fs.toList) (i := i) (a := f) (by simpa using hi)
                  exact this
                have := List.all_eq_true.1 hk f hmem
                cases htf : tiOf P f.type with
                | none => rw [htf] at this; simp at this
                | some fi => simp [k, htf]
            obtain ⟨b, hb1, hb2⟩ := fillV_sound (a := x.cells) hp hzc hf
            refine ⟨.agg b, ?_, by simp only [Rel]; exact ⟨b, rfl, hb2⟩⟩
            simp only [Instr.build, Sem.run_bind, hx, hu, Result.andThen_ok, hmap]
            rw [hplace]
            simp only [hb1, Sem.run_pure]
      | array n e =>
        rw [hund] at he hu
        simp only at he
        cases hte : tiOf P e with
        | none => rw [hte] at he; cases he
        | some ei =>
          rw [hte] at he
          simp only at he
          cases hf : fillV (fun i => some (i * ei.size, ei.size)) z.cells ps with
          | none => rw [hf] at he; cases he
          | some cs =>
            rw [hf] at he
            simp only [Option.some.injEq] at he
            subst he
            obtain ⟨b, hb1, hb2⟩ := fillV_sound (a := x.cells) hp hzc hf
            refine ⟨.agg b, ?_, by simp only [Rel]; exact ⟨b, rfl, hb2⟩⟩
            simp only [Instr.build, Sem.run_bind, hx, hu, Result.andThen_ok, run_size hte, hb1, Sem.run_pure]
      | _ => rw [hund] at he; cases he
theorem repeat_rel {E : Env} {z : List V} {l : Array Value} (hz : RelL E z l.toList) : ∀ n : Nat, RelL E (repeatV z n) ((Array.range (n * l.size)).map (l[· % l.size]!)).toList := by
  have hself : (List.range l.size).map (l[· % l.size]!) = l.toList := by
    apply List.ext_getElem?
    intro i
    simp only [List.getElem?_map]
    by_cases hi : i < l.size
    · rw [List.getElem?_range hi]
      simp only [Option.map, Nat.mod_eq_of_lt hi, Array.getElem?_toList]
      rw [getElem!_pos l i hi, Array.getElem?_eq_getElem hi]
    · rw [List.getElem?_eq_none (by simp; omega), Array.getElem?_toList, Array.getElem?_eq_none (by omega)]
      rfl
  intro n
  simp only [Array.toList_map, Array.toList_range]
  induction n with
  | zero => simp [repeatV, RelL]
  | succ n ih =>
    have e : (n + 1) * l.size = l.size + n * l.size := by rw [Nat.add_mul]; omega
    rw [e, List.range_add, List.map_append, hself, List.map_map]
    have e2 : ((l[· % l.size]!) ∘ fun x => l.size + x) = (l[· % l.size]!) := by
      funext x
      simp
    rw [e2]
    exact hz.append ih
theorem zero_cells {E : Env} {t : TypeId} {ti : TI} {z : V} (ht : tiOf P t = some ti) (hz : ti.zero = some z) (w : World) : ∃ x : Value, (∀ w, (zeroValue t).run P w = .ok x w) ∧ RelL E z.cells x.cells.toList ∧ x.cells.size = z.cells.length := by
  obtain ⟨x, hx, _, hzx⟩ := run_zero (P := P) ht hz E w
  obtain ⟨i, h1, _, _, _, _, h6⟩ := tiOf_spec ht
  rw [hz] at h6
  have hzi : ∃ y, i.zero = some y := by cases hq : i.zero with | none => rw [hq] at h6; cases h6 | some y => exact ⟨y, rfl⟩
  obtain ⟨y, hy⟩ := hzi
  have hrun : ∀ w, (zeroValue t).run P w = .ok y w := fun w => by simp only [zeroValue, Sem.run_bind, run_typeInfo_some h1, Result.andThen_ok, hy]; rfl
  have hxy : y = x := by have := hrun w; rw [hx] at this; simp at this; exact this.symm
  subst hxy
  refine ⟨_, hrun, ?_, ?_⟩
  · rw [hzx]
    have : ∀ y : Value, RelL E (ofVal y).cells y.cells.toList := by
      intro y
      cases y with
      | agg cs => simp only [ofVal, V.cells, Value.cells]; exact ofVals_rel E _
      | pointer a => cases a <;> simp [ofVal, ofVal1, V.cells, Value.cells, RelL, Rel]
      | slice a n c =>
        have := ofVal_rel E (.slice a n c)
        cases a with
        | some a => simp [ofVal, ofVal1, V.cells, Value.cells, RelL, Rel]
        | none =>
          simp only [ofVal, ofVal1] at this ⊢
          cases hb : (Nat.beq n 0 && Nat.beq c 0) with
          | false => simp [V.cells, Value.cells, RelL, Rel]
          | true => rw [hb] at this; simpa [V.cells, Value.cells, RelL] using this
      | map r => cases r <;> simp [ofVal, ofVal1, V.cells, Value.cells, RelL, Rel]
      | tuple cs =>
        have := ofVal_rel E (.tuple cs)
        simp only [ofVal, V.cells, Value.cells, RelL] at this ⊢
        exact ⟨_, _, rfl, this, rfl⟩
      | _ => simp [ofVal, ofVal1, V.cells, Value.cells, RelL, Rel]
    exact this _
  · rw [hzx, ofVal_cells_length]
theorem buildSliceC_sound {w0 : Fr} {E : Env} {h h' : Heap} {w : World} (s : Sim w0 E h w) {t : TypeId} {n : Nat} {ps : List (Nat × V)} {qs : List (Nat × Value)} {v : V} (hp : RelP E ps qs) (he : (buildSliceC P t n).run ps h = .val v h') :
    Gives w0 P E w (Instr.buildSlice t n qs.toArray) v h' := by
  unfold buildSliceC at he
  cases ht : tiOf P t with
  | none => rw [ht] at he; cases he
  | some ti =>
    rw [ht] at he
    simp only at he
    have hu := run_und ht
    cases hund : ti.und with
    | slice e =>
      rw [hund] at he hu
      simp only at he
      cases hte : tiOf P e with
      | none => rw [hte] at he; cases he
      | some ei =>
        rw [hte] at he
        simp only at he
        cases hz : ei.zero with
        | none => rw [hz] at he; cases he
        | some z =>
          rw [hz] at he
          simp only at he
          cases hc : (Nat.ble (n * ei.size) 1000000 && Nat.beq z.cells.length ei.size) with
          | false => rw [hc] at he; cases he
          | true =>
            rw [hc] at he
            simp only [cond_true] at he
            simp only [Bool.and_eq_true, Nat.ble_eq, Nat.beq_eq] at hc
            cases hf : fillV (fun i => some (i * ei.size, ei.size)) (repeatV z.cells n) ps with
            | none => rw [hf] at he; cases he
            | some cs =>
              rw [hf] at he
              simp only at he
              cases hn : newCells h cs with
              | none => rw [hn] at he; cases he
              | some h1 =>
                rw [hn] at he
                simp only [OR.val.injEq] at he
                obtain ⟨rfl, rfl⟩ := he
                obtain ⟨x, hx, hxr, hxs⟩ := zero_cells (P := P) (E := E) hte hz w
                have hxs' : x.cells.size = ei.size := by rw [hxs, hc.2]
                have hrep := repeat_rel hxr n
                rw [hxs'] at hrep
                obtain ⟨b, hb1, hb2⟩ := fillV_sound (a := (Array.range (n * ei.size)).map (x.cells[· % x.cells.size]!)) hp (by rw [hxs']; exact hrep) hf
                obtain ⟨E', g1, g2, g3, g4⟩ := newCells_sound (P := P) s hb2 hn e
                refine ⟨.slice (some ⟨w.heap.size, 0, none⟩) n n, _, E', ?_, g1, ?_, g4⟩
                · have hlim : ¬ 16777216 < n * ei.size := by omega
                  have hg3 : (newRow e b).run P w = .ok ⟨w.heap.size, 0, none⟩ { w with heap := w.heap.push (.cells b e) } := by simpa using g3
                  by_cases h0 : n * ei.size = 0
                  · have hb1' : Instr.fill (fun i => some (i * ei.size, ei.size)) ((Array.range (n * ei.size)).map ((#[] : Array Value)[· % 0]!)) qs = some b := by
                      have e1 : (Array.range (n * ei.size)).map ((#[] : Array Value)[· % 0]!) = (Array.range (n * ei.size)).map (x.cells[· % x.cells.size]!) := by
                        rw [h0]; simp
                      rw [e1]; exact hb1
                    have hb1'' : Instr.fill (fun i => some (i * ei.size, ei.size)) ((Array.range (n * ei.size)).map (fun x => (#[] : Array Value)[x % (#[] : Array Value).size]!)) qs = some b := hb1'
                    simp only [Instr.buildSlice, Sem.run_bind, hu, Result.andThen_ok, run_size hte, Sem.run_ite]
                    rw [if_neg hlim]
                    simp only [Sem.run_pure, Result.andThen_ok, if_pos h0]
                    rw [hb1'']
                    simp only [Sem.run_bind, hg3, Result.andThen_ok, Sem.run_pure]
                  · simp only [Instr.buildSlice, Sem.run_bind, hu, Result.andThen_ok, run_size hte, Sem.run_ite]
                    rw [if_neg hlim]
                    simp only [Sem.run_pure, Result.andThen_ok, if_neg h0, hx]
                    rw [hb1]
                    simp only [Sem.run_bind, hg3, Result.andThen_ok, Sem.run_pure]
                · simp only [Rel]
                  exact ⟨_, g2, Nat.le_refl _, by simp⟩
    | _ => rw [hund] at he; cases he
theorem makeSliceC_sound {w0 : Fr} {E : Env} {h h' : Heap} {w : World} (s : Sim w0 E h w) {t : TypeId} {x y v : V} {X Y : Value} (hx : Rel E x X) (hy : Rel E y Y) (he : (makeSliceC P t).run x y h = .val v h') :
    Gives w0 P E w (Instr.makeSlice t X Y) v h' := by
  unfold makeSliceC at he
  cases ht : tiOf P t with
  | none => rw [ht] at he; cases he
  | some ti =>
    rw [ht] at he
    simp only at he
    have hu := run_und ht
    cases hund : ti.und with
    | slice e =>
      rw [hund] at he hu
      simp only at he
      cases hte : tiOf P e with
      | none => rw [hte] at he; cases he
      | some ei =>
        rw [hte] at he
        simp only at he
        cases hz : ei.zero with
        | none => rw [hz] at he; cases he
        | some z =>
          rw [hz] at he
          simp only at he
          cases hby : Nat.ble ei.bytes 4096 with
          | false => rw [hby] at he; cases he
          | true =>
            rw [hby] at he
            simp only [cond_true, makeSliceV] at he
            obtain ⟨k1, l, rfl, he1⟩ := onInt_val he
            obtain ⟨k2, c, rfl, he2⟩ := onInt_val he1
            have := hx.int_of; subst this
            have := hy.int_of; subst this
            obtain ⟨hc, he3⟩ := cond_val he2
            simp only [Bool.and_eq_true, leB_eq, decide_eq_true_eq, Nat.beq_eq] at hc
            obtain ⟨⟨h0, h1, h2⟩, h3⟩ := hc
            rw [Nat.ble_eq] at hby
            cases hn : newCells h (repeatV z.cells c.toNat) with
            | none => rw [hn] at he3; cases he3
            | some hh =>
              rw [hn] at he3
              simp only [OR.val.injEq] at he3
              obtain ⟨rfl, rfl⟩ := he3
              obtain ⟨xz, hxz, hxr, hxs⟩ := zero_cells (P := P) (E := E) hte hz w
              have hxs' : xz.cells.size = ei.size := by rw [hxs, h3]
              have hrep := repeat_rel hxr c.toNat
              obtain ⟨E', g1, g2, g3, g4⟩ := newCells_sound (P := P) s hrep hn e
              obtain ⟨i, hi, hib⟩ := run_bytes (P := P) hte w
              have hwl : IntKind.i64.wrap l = l := by simp only [IntKind.wrap, IntKind.bits, IntKind.signed]; simp; omega
              have hwc : IntKind.i64.wrap c = c := by simp only [IntKind.wrap, IntKind.bits, IntKind.signed]; simp; omega
              have hmul : (ei.bytes : Int) * c ≤ 4096 * 1000000 := by
                have hb : (ei.bytes : Int) ≤ 4096 := by omega
                have := Int.mul_le_mul_of_nonneg_right (c := c) hb (by omega)
                omega
              refine ⟨.slice (some ⟨w.heap.size, 0, none⟩) l.toNat c.toNat, _, E', ?_, g1, ?_, g4⟩
              · have hg3 := g3
                simp only [Array.toArray_toList] at hg3
                have c1 : ¬ c < 0 := by omega
                have c2 : ¬ ((ei.bytes : Int) * c > 281474976710656) := by omega
                have c3 : ¬ l < 0 := by omega
                have c4 : ¬ l > c := by omega
                have same : (if c.toNat * ei.size = 0 then (Array.range (c.toNat * ei.size)).map (fun x => (#[] : Array Value)[x % (#[] : Array Value).size]!) else (Array.range (c.toNat * ei.size)).map (fun x => xz.cells[x % xz.cells.size]!)) =
                    (Array.range (c.toNat * xz.cells.size)).map (xz.cells[· % xz.cells.size]!) := by
                  rw [hxs']
                  by_cases hq : c.toNat * ei.size = 0
                  · rw [hq]; simp
                  · rw [if_neg hq]
                simp only [Instr.makeSlice, Sem.run_bind, hu, Result.andThen_ok, asInt, asIntOf, Sem.run_pure, hi, hwl, hwc, hib]
                rw [if_neg (by simp only [Bool.or_eq_true, decide_eq_true_eq, not_or]; exact ⟨⟨⟨c1, c2⟩, c3⟩, c4⟩)]
                simp only [Result.andThen_ok, Sem.run_bind, run_askRoom, run_size hte]
                by_cases hq : c.toNat * ei.size = 0
                · rw [if_pos hq] at same
                  rw [if_pos hq]
                  simp only [Sem.run_pure, Result.andThen_ok, Sem.run_bind, same, hg3, Array.toArray_toList]
                · rw [if_neg hq] at same
                  rw [if_neg hq]
                  simp only [Sem.run_pure, Result.andThen_ok, Sem.run_bind, hxz, same, hg3, Array.toArray_toList]
              · simp only [Rel]
                exact ⟨_, g2, by omega, by simp⟩
    | _ => rw [hund] at he; cases he
end
end Go.Proofs.YtjbiefneffiogaaGreat.Am

namespace Go.Proofs.YtjbiefneffiogaaGreat.Am
variable [Lay]
open Go Go.RowKit
section
variable {P : Program}
theorem keyC_sound {E : Env} {und : TypeDesc} {k k' : V} {K K' : Value} {b : Bool} (he : (keyC und).run k k' = some b) (hx : Rel E k K) (hy : Rel E k' K') :
    Instr.sameNow und K K' = some b ∧ (b = true → K' = K ∧ ∀ n, Instr.sameBits n K K = true) := by
  cases und <;> simp only [keyC] at he <;> try (simp [EqC.none] at he; done)
  case bool =>
    simp only [eqBoolC] at he
    cases k <;> simp only at he <;> try (cases he; done)
    cases k' <;> simp only at he <;> try (cases he; done)
    simp only [Rel] at hx hy
    subst hx hy
    simp only [Option.some.injEq] at he
    subst he
    refine ⟨rfl, fun h => ?_⟩
    rw [beq_iff_eq] at h
    subst h
    exact ⟨rfl, fun n => by cases n <;> simp [Instr.sameBits]⟩
  case int k0 =>
    simp only [eqIntC] at he
    obtain ⟨j, m, rfl, h1⟩ := onInt_some he
    clear he
    obtain ⟨j', m', rfl, h2⟩ := onInt_some h1
    clear h1
    obtain ⟨hk, h⟩ := cond_some h2
    clear h2
    have := eqKind_eq hk
    subst this
    simp only [Rel] at hx hy
    subst hx hy
    simp only [Option.some.injEq, eqB_eq] at h
    subst h
    refine ⟨by simp [Instr.sameNow], fun h => ?_⟩
    rw [beq_iff_eq] at h
    subst h
    exact ⟨rfl, fun n => by cases n <;> simp [Instr.sameBits]⟩
  case string =>
    simp only [eqStrC] at he
    cases k <;> simp only at he <;> try (cases he; done)
    cases k' <;> simp only at he <;> try (cases he; done)
    simp only [Rel] at hx hy
    subst hx hy
    simp only [Option.some.injEq, beqBytes_eq] at he
    subst he
    refine ⟨by simp only [Instr.sameNow, bytes_beq], fun h => ?_⟩
    rw [beq_iff_eq] at h
    subst h
    exact ⟨rfl, fun n => by cases n <;> simp [Instr.sameBits, bytes_beq]⟩
theorem run_checkKey {und : TypeDesc} (hf : keyFits und = true) {t : TypeId} {w : World} (hu : (underlying t).run P w = .ok und w) (b : Bool) (v : Value) : (Instr.checkKey b 10000 t v).run P w = .ok () w := by
  show (Instr.checkKey b (9999 + 1) t v).run P w = .ok () w
  unfold Instr.checkKey
  rw [Sem.run_bind, hu]
  cases und <;> simp only [keyFits] at hf <;> first
    | (cases hf; done)
    | rfl
theorem run_findKey {und : TypeDesc} {t : TypeId} {w : World} (hu : (underlying t).run P w = .ok und w) {K : Value} {l : List MapEntry} {R : Option (Nat × Value)} (h : Instr.findNow und K l 0 = some R) :
    (Instr.findKey t K l).run P w = .ok R w := by
  simp only [Instr.findKey, Sem.run_bind, hu, Result.andThen_ok, h, Sem.run_pure]
theorem findV_sound {E : Env} {und : TypeDesc} {k : V} {K : Value} (hk : Rel E k K) : ∀ (es : List ME) (l : List MapEntry) (r : Option V) (i : Nat), findV (keyC und) k es = some r → MRel E es l →
    ∃ R, Instr.findNow und K l i = some R ∧ (match r with
      | none => R = none
      | some v => ∃ j Y, R = some (j, Y) ∧ Rel E v Y)
  | [], l, r, i, h, hr => by
    simp only [MRel] at hr
    subst hr
    simp only [findV, Option.some.injEq] at h
    subst h
    exact ⟨none, rfl, rfl⟩
  | m :: ms, l, r, i, h, hr => by
    obtain ⟨e, es, rfl, h1, h2, h3, h4⟩ := hr
    simp only [findV] at h
    cases hs : (keyC und).run k m.k with
    | none => rw [hs] at h; cases h
    | some b =>
      rw [hs] at h
      simp only at h
      obtain ⟨q1, q2⟩ := keyC_sound hs hk h1
      cases b with
      | true =>
        simp only [cond_true, Option.some.injEq] at h
        subst h
        exact ⟨some (i, e.val), by simp only [Instr.findNow, q1], i, e.val, rfl, h2⟩
      | false =>
        simp only [cond_false] at h
        obtain ⟨R, g1, g2⟩ := findV_sound hk ms es r (i + 1) h h4
        exact ⟨R, by simp only [Instr.findNow, q1, g1], g2⟩
theorem putV_sound {E : Env} {und : TypeDesc} {k v : V} {K X : Value} (hk : Rel E k K) (hv : Rel E v X) (clock : Nat) : ∀ (es : List ME) (l : List MapEntry) (r : List ME × Bool) (i : Nat), putV (keyC und) k v clock es = some r → MRel E es l →
    (r.2 = true → Instr.findNow und K l i = some none ∧ MRel E r.1 (l ++ [⟨K, X, clock⟩])) ∧
    (r.2 = false → ∃ j e Y, Instr.findNow und K l i = some (some (i + j, Y)) ∧ l[j]? = some e ∧ Instr.sameBits 10000 e.key K = true ∧ MRel E r.1 (l.modify j fun e => { e with key := K, val := X }))
  | [], l, r, i, h, hr => by
    simp only [MRel] at hr
    subst hr
    simp only [putV, Option.some.injEq] at h
    subst h
    exact ⟨fun _ => ⟨rfl, _, _, rfl, hk, hv, rfl, rfl⟩, fun h => by cases h⟩
  | m :: ms, l, r, i, h, hr => by
    obtain ⟨e, es, rfl, h1, h2, h3, h4⟩ := hr
    simp only [putV] at h
    cases hs : (keyC und).run k m.k with
    | none => rw [hs] at h; cases h
    | some b =>
      rw [hs] at h
      simp only at h
      obtain ⟨q1, q2⟩ := keyC_sound hs hk h1
      cases b with
      | true =>
        simp only [cond_true, Option.some.injEq] at h
        subst h
        obtain ⟨q3, q4⟩ := q2 rfl
        refine ⟨fun h => (by cases h), fun _ => ⟨0, e, e.val, by simp only [Instr.findNow, q1, Nat.add_zero], rfl, by rw [q3]; exact q4 _, ?_⟩⟩
        exact ⟨_, es, rfl, hk, hv, h3, h4⟩
      | false =>
        simp only [cond_false] at h
        cases hp : putV (keyC und) k v clock ms with
        | none => rw [hp] at h; cases h
        | some r' =>
          rw [hp] at h
          simp only [Option.some.injEq] at h
          subst h
          obtain ⟨g1, g2⟩ := putV_sound hk hv clock ms es r' (i + 1) hp h4
          refine ⟨fun h => ?_, fun h => ?_⟩
          · obtain ⟨a1, a2⟩ := g1 h
            exact ⟨by simp only [Instr.findNow, q1, a1], ⟨e, es ++ [⟨K, X, clock⟩], rfl, h1, h2, h3, a2⟩⟩
          · obtain ⟨j, e', Y, a1, a2, a3, a4⟩ := g2 h
            exact ⟨j + 1, e', Y, by simp only [Instr.findNow, q1, a1]; congr 3; omega, by simpa using a2, a3, e, _, rfl, h1, h2, h3, a4⟩
theorem mapSee_sound {w0 : Fr} {E : Env} {h : Heap} {w : World} (s : Sim w0 E h w) {x : V} {X : Value} {es : List ME} (he : mapSee h x = some es) (hx : Rel E x X) :
    (X = .map none ∧ es = []) ∨ ∃ r a clock, X = .map (some r) ∧ (getObj r).run P w = .ok (.map a clock) w ∧ MRel E es a.toList := by
  cases x <;> simp only [mapSee] at he <;> try (cases he; done)
  · simp only [Rel] at hx
    exact .inl ⟨hx, by simpa using he.symm⟩
  · rename_i b
    simp only [Rel] at hx
    obtain ⟨p, hp, rfl⟩ := hx
    have hb := s.at hp
    cases hg : h.get b <;> rw [hg] at he <;> simp only [Blk.onMap] at he <;> try (cases he; done)
    simp only [Option.some.injEq] at he
    subst he
    rw [hg] at hb
    obtain ⟨q, a, h1, _, h3, h4⟩ := hb
    rw [hp] at h1; cases h1
    exact .inr ⟨p.blk, a, _, rfl, by simp only [getObj, Sem.run, h3]; rfl, h4⟩
theorem lookupC_sound {w0 : Fr} {E : Env} {h : Heap} {w : World} (s : Sim w0 E h w) {t : TypeId} {ok : Bool} {x k v : V} {X K : Value} (hx : Rel E x X) (hk : Rel E k K) (he : (lookupC P t ok).run h x k = some v) :
    ∃ Z, (Instr.lookup t X K ok).run P w = .ok Z w ∧ Rel E v Z := by
  unfold lookupC at he
  cases ht : tiOf P t with
  | none => rw [ht] at he; cases he
  | some ti =>
    rw [ht] at he
    simp only at he
    have hu := run_und ht w
    cases hund : ti.und <;> rw [hund] at he <;> simp only at he <;> try (cases he; done)
    rename_i kt et
    rw [hund] at hu
    cases hkt : tiOf P kt with
    | none => rw [hkt] at he; cases he
    | some ki =>
      rw [hkt] at he
      simp only at he
      cases het : tiOf P et with
      | none => rw [het] at he; cases he
      | some ei =>
        rw [het] at he
        simp only at he
        cases hz : ei.zero with
        | none => rw [hz] at he; cases he
        | some z =>
          rw [hz] at he
          simp only at he
          cases hf : keyFits ki.und with
          | false => rw [hf] at he; cases he
          | true =>
            rw [hf] at he
            simp only [cond_true, lookupV] at he
            obtain ⟨zx, hzx, hzr, _⟩ := run_zero (P := P) het hz E w
            have hku := run_und hkt w
            cases hm : mapSee h x with
            | none => rw [hm] at he; cases he
            | some es =>
              rw [hm] at he
              simp only at he
              cases hfv : findV (keyC ki.und) k es with
              | none => rw [hfv] at he; cases he
              | some r =>
                rw [hfv] at he
                simp only at he
                have main : ∀ (l : List MapEntry), MRel E es l → ∃ R, (Instr.findKey kt K l).run P w = .ok R w ∧
                    ((R = none ∧ Rel E v (if ok = true then .tuple #[zx, .bool false] else zx)) ∨ ∃ j Y, R = some (j, Y) ∧ Rel E v (if ok = true then .tuple #[Y, .bool true] else Y)) := by
                  intro l hl
                  obtain ⟨R, g1, g2⟩ := findV_sound hk es l r 0 hfv hl
                  refine ⟨R, run_findKey hku g1, ?_⟩
                  cases r with
                  | none =>
                    simp only at g2 he
                    refine .inl ⟨g2, ?_⟩
                    simp only [Option.some.injEq] at he
                    subst he
                    cases ok
                    · exact hzr
                    · simp only [cond_true, if_true, Rel, RelL]; exact ⟨_, rfl, _, _, rfl, hzr, _, _, rfl, rfl, rfl⟩
                  | some u =>
                    simp only at g2 he
                    obtain ⟨j, Y, hR, hY⟩ := g2
                    refine .inr ⟨j, Y, hR, ?_⟩
                    simp only [Option.some.injEq] at he
                    subst he
                    cases ok
                    · exact hY
                    · simp only [cond_true, if_true, Rel, RelL]; exact ⟨_, rfl, _, _, rfl, hY, _, _, rfl, rfl, rfl⟩
                rcases mapSee_sound (P := P) s hm hx with ⟨rfl, rfl⟩ | ⟨r0, a, clock, rfl, hgo, hmr⟩
                · obtain ⟨R, g1, g2⟩ := main [] rfl
                  have hck := run_checkKey (P := P) hf hku true K
                  rcases g2 with ⟨rfl, g3⟩ | ⟨j, Y, rfl, g3⟩
                  all_goals
                    refine ⟨_, ?_, g3⟩
                    simp only [Instr.lookup, Sem.run_bind, hu, Result.andThen_ok, Sem.run_pure]
                    have e1 : (#[] : Array MapEntry).isEmpty = true := rfl
                    rw [e1, hck, Result.andThen_ok, g1, Result.andThen_ok]
                    simp only [Sem.run_bind, hzx, Result.andThen_ok, Sem.run_pure]
                · obtain ⟨R, g1, g2⟩ := main a.toList hmr
                  have hck := run_checkKey (P := P) hf hku a.isEmpty K
                  rcases g2 with ⟨rfl, g3⟩ | ⟨j, Y, rfl, g3⟩
                  all_goals
                    refine ⟨_, ?_, g3⟩
                    simp only [Instr.lookup, Sem.run_bind, hu, Result.andThen_ok, Sem.run_pure, hgo]
                    rw [hck, Result.andThen_ok, g1, Result.andThen_ok]
                    simp only [Sem.run_bind, hzx, Result.andThen_ok, Sem.run_pure]
theorem updC_sound {w0 : Fr} {E : Env} {h h' : Heap} {w : World} (s : Sim w0 E h w) {t : TypeId} {x k v : V} {X K Y : Value} (hx : Rel E x X) (hk : Rel E k K) (hv : Rel E v Y) (he : (updC P t).run h x k v = some h') :
    ∃ w', (Instr.mapUpdate t X K Y).run P w = .ok () w' ∧ Sim w0 E h' w' := by
  unfold updC at he
  cases ht : tiOf P t with
  | none => rw [ht] at he; cases he
  | some ti =>
    rw [ht] at he
    simp only at he
    have hu := run_und ht w
    cases hund : ti.und <;> rw [hund] at he <;> simp only at he <;> try (cases he; done)
    rename_i kt et
    rw [hund] at hu
    cases hkt : tiOf P kt with
    | none => rw [hkt] at he; cases he
    | some ki =>
      rw [hkt] at he
      simp only at he
      cases hf : keyFits ki.und with
      | false => rw [hf] at he; cases he
      | true =>
        rw [hf] at he
        simp only [cond_true] at he
        have hku := run_und hkt w
        cases x <;> simp only [updV] at he <;> try (cases he; done)
        rename_i b
        simp only [Rel] at hx
        obtain ⟨p, hp, rfl⟩ := hx
        have hb := s.at hp
        cases hg : h.get b <;> rw [hg] at he <;> simp only [Blk.onMap] at he <;> try (cases he; done)
        rename_i es clock
        rw [hg] at hb
        obtain ⟨q, a, h1, hB, h3, h4⟩ := hb
        rw [hp] at h1; cases h1
        cases hpv : putV (keyC ki.und) k v clock es with
        | none => rw [hpv] at he; cases he
        | some r =>
          rw [hpv] at he
          simp only [Option.some.injEq] at he
          subst he
          have hgo : (getObj p.blk).run P w = .ok (.map a clock) w := by simp only [getObj, Sem.run, h3]
          have hck := run_checkKey (P := P) hf hku false K
          have hplt := (Array.getElem?_eq_some_iff.1 h3).1
          have done : ∀ (a' : Array MapEntry) (c' : Nat), MRel E r.1 a'.toList → c' = (bif r.2 then clock + 1 else clock) →
              ∃ w', (setObj p.blk (.map a' c')).run P w = .ok () w' ∧ Sim w0 E (h.set b (.mp r.1 (bif r.2 then clock + 1 else clock))) w' := by
            intro a' c' hm hc
            refine ⟨{ w with heap := w.heap.setIfInBounds p.blk (.map a' c') }, by simp only [setObj, Sem.run, h3], s.set (p := p) (by rw [hg]; rfl) hp hB (by simp) (fun j hj => ?_) rfl rfl rfl (fun _ _ _ e => by cases e) ?_⟩
            · simp only [Array.getElem?_setIfInBounds]
              rw [if_neg (fun e => hj e.symm)]
            · exact ⟨p, a', hp, hB, by simp [hplt, hc], hm⟩
          obtain ⟨g1, g2⟩ := putV_sound hk hv clock es a.toList r 0 hpv h4
          cases hr2 : r.2 with
          | true =>
            obtain ⟨a1, a2⟩ := g1 hr2
            obtain ⟨w', d1, d2⟩ := done (a.push ⟨K, Y, clock⟩) (clock + 1) (by simpa using a2) (by rw [hr2]; rfl)
            rw [hr2] at d2
            refine ⟨w', ?_, d2⟩
            simp only [Instr.mapUpdate, Sem.run_bind, hu, Result.andThen_ok, hgo, hck, run_findKey hku a1, d1]
          | false =>
            obtain ⟨j, e, Y0, a1, a2, a3, a4⟩ := g2 hr2
            obtain ⟨w', d1, d2⟩ := done (a.modify j fun e => { e with key := K, val := Y }) clock (by simpa using a4) (by rw [hr2]; rfl)
            rw [hr2] at d2
            refine ⟨w', ?_, d2⟩
            rw [Nat.zero_add] at a1
            have e1 : a[j]? = some e := by simpa using a2
            simp only [Instr.mapUpdate, Sem.run_bind, hu, Result.andThen_ok, hgo, hck, run_findKey hku a1, e1, Option.map, Option.getD, Instr.keyThatStays, a3, if_true, Sem.run_pure, d1]
theorem newMap_sound {w0 : Fr} {E : Env} {h h' : Heap} {w : World} (s : Sim w0 E h w) {v : V} (he : newMap h = .val v h') : Gives w0 P E w (do pure (.map (some (← newObj (.map #[] 0))))) v h' := by
  unfold newMap at he
  simp only [OR.val.injEq] at he
  obtain ⟨rfl, rfl⟩ := he
  have hnone := s.fresh h.next (Nat.le_refl _)
  have hput : E.put (pa h.next) ⟨w.heap.size, 0, 0⟩ (pa h.next) = some ⟨w.heap.size, 0, 0⟩ := by unfold Env.put; rw [if_pos rfl]
  refine ⟨.map (some w.heap.size), { w with heap := w.heap.push (.map #[] 0) }, _, ?_, Env.le_put (p := ⟨w.heap.size, 0, 0⟩) hnone, ?_, s.alloc 0 ?_⟩
  · simp only [Sem.run_bind, run_newObj, Result.andThen_ok, Sem.run_pure]
  · simp only [Rel]; exact ⟨_, hput, rfl⟩
  · exact ⟨_, #[], hput, s.frame.size, by simp, rfl⟩
theorem makeMapC_sound {w0 : Fr} {E : Env} {h h' : Heap} {w : World} (s : Sim w0 E h w) {t : TypeId} {x : Option V} {X : Option Value} {v : V} (hx : optRel E x X) (he : makeMapC P t x h = .val v h') : Gives w0 P E w (Instr.makeMap t X) v h' := by
  unfold makeMapC at he
  cases ht : tiOf P t with
  | none => rw [ht] at he; cases he
  | some ti =>
    rw [ht] at he
    simp only at he
    have hu := run_und ht
    cases hb : Nat.beq (nilKindD ti.und) 3 with
    | false => rw [hb] at he; cases he
    | true =>
      rw [hb] at he
      simp only [cond_true] at he
      cases x with
      | none =>
        have : X = none := by cases X with | none => rfl | some _ => simp [optRel] at hx
        subst this
        simp only [makeMapV] at he
        have := newMap_sound (P := P) s he
        exact this
      | some u =>
        simp only [makeMapV] at he
        obtain ⟨kk, n, rfl, h1⟩ := onInt_val he
        obtain ⟨Y, rfl, hY⟩ : ∃ Y, X = some Y ∧ Rel E (.int kk n) Y := by
          cases X with
          | none => simp [optRel] at hx
          | some Y => simp only [optRel] at hx; obtain ⟨Y', h1, h2⟩ := hx; cases h1; exact ⟨_, rfl, h2⟩
        have := hY.int_of; subst this
        obtain ⟨Z, w', E', q1, q2⟩ := newMap_sound (P := P) s h1
        refine ⟨Z, w', E', ?_, q2⟩
        cases hund : ti.und <;> rw [hund] at hb <;> simp [nilKindD] at hb
        have hu := hu w
        rw [hund] at hu
        simp only [Instr.makeMap, Sem.run_bind, hu, Result.andThen_ok, asInt, Sem.run_pure]
        exact q1
theorem lenMap_sound {w0 : Fr} {E : Env} {h h' : Heap} {w : World} (s : Sim w0 E h w) {t : TypeId} {ti : TI} (ht : tiOf P t = some ti) (hm : isMapD ti.und = true) {x v : V} {X : Value} (hx : Rel E x X) (ty : TypeId) (rest : List TypeId)
    (he : lenMap [x] h = .val v h') : Gives w0 P E w (Builtin.len_ (t :: rest).toArray ty #[X]) v h' := by
  simp only [lenMap] at he
  cases hs : mapSee h x with
  | none => rw [hs] at he; cases he
  | some es =>
    rw [hs] at he
    simp only [OR.val.injEq] at he
    obtain ⟨rfl, rfl⟩ := he
    have hu := run_und ht w
    cases hund : ti.und <;> rw [hund] at hm <;> simp [isMapD] at hm
    rw [hund] at hu
    rcases mapSee_sound (P := P) s hs hx with ⟨rfl, rfl⟩ | ⟨r0, a, clock, rfl, hgo, hmr⟩
    · refine Gives.plain (Z := goInt 0) s ?_ (by simp [Rel, goInt])
      simp [Builtin.len_, hu]
    · have hlen : ∀ (ms : List ME) (l : List MapEntry), MRel E ms l → l.length = ms.length := by
        intro ms
        induction ms with
        | nil => intro l h; simp only [MRel] at h; subst h; rfl
        | cons m ms ih => intro l h; obtain ⟨e, es, rfl, _, _, _, h4⟩ := h; simp [ih _ h4]
      refine Gives.plain (Z := goInt a.size) s ?_ ?_
      · simp [Builtin.len_, hu, hgo]
      · have := hlen _ _ hmr
        simp only [Array.length_toList] at this
        simp [Rel, goInt, this]
end
end Go.Proofs.YtjbiefneffiogaaGreat.Am

namespace Go.Proofs.YtjbiefneffiogaaGreat.Am
variable [Lay]
open Go Go.RowKit
section
variable {P : Program}
def CallOk (P : Program) (call : CallF) : Prop :=
  ∀ (w0 : Fr) f args h v h', call f args h = .val v h' → ∀ E w xs, RelL E args xs → Sim w0 E h w →
    ((∃ fn, P.funcs[f]? = some fn ∧ fn.body.isSome = true) ∧ Calls P f xs.toArray w fun e w' => ∃ E' x, e = .returned x ∧ E.le E' ∧ Rel E' v x ∧ Sim w0 E' h' w') ∨
    ∃ E' x w', (callFunc f xs.toArray).run P w = .ok (.value x) w' ∧ E.le E' ∧ Rel E' v x ∧ Sim w0 E' h' w'
theorem wp_gives {o : Oper} {a : Act} {w : World} {w0 : Fr} {E : Env} {h' : Heap} {v : V} {m : Sem Value} {K : Act → World → Prop} {Q : Exit → Act → World → Prop}
    (hx : execOp a.eval o = (do pure (.value (← m)))) (g : Gives w0 P E w m v h') (hK : ∀ E' x w', E.le E' → Rel E' v x → Sim w0 E' h' w' → K (a.put o.dst x) w') : o.wp P a w K Q := by
  obtain ⟨Z, w', E', h1, h2, h3, h4⟩ := g
  unfold Oper.wp
  rw [hx, Sem.run_bind, h1]
  exact hK E' Z w' h2 h3 h4
theorem partsC_sound {E : Env} {nt : Nat} {r : Regs} {a : Act} (k : RegRel E nt r a) : ∀ l : List (Nat × Operand), RelP E ((partsC l).run r) (l.map fun (i, x) => (i, a.eval x))
  | [] => rfl
  | (i, x) :: l => by
    simp only [partsC, List.map, RelP]
    exact ⟨_, _, rfl, evC_sound k x, partsC_sound k l⟩
theorem optC_sound {E : Env} {nt : Nat} {r : Regs} {a : Act} (k : RegRel E nt r a) (x : Option Operand) : optRel E ((optC x).run r) (x.map a.eval) := by
  cases x with
  | none => rfl
  | some x => simp only [optC, optRel, Option.map]; exact ⟨_, rfl, evC_sound k x⟩
theorem onPtr_val {v : V} {f : Pa → Nat → OR} {r : V} {h : Heap} (he : v.onPtr .fail f = .val r h) : ∃ b off, v = .ptr b off ∧ f b off = .val r h := by
  cases v <;> simp only [V.onPtr] at he <;> first
    | (cases he; done)
    | exact ⟨_, _, rfl, he⟩
theorem nextV_sound {w0 : Fr} {E : Env} {h h' : Heap} {w : World} (s : Sim w0 E h w) {x v : V} {X : Value} {ty : TypeId} (hx : Rel E x X) (he : nextV x h = .val v h') : Gives w0 P E w (Instr.next X true ty) v h' := by
  unfold nextV at he
  obtain ⟨b, off, rfl, h1⟩ := onPtr_val he
  have hb := s.at (p := _) (by simp only [Rel] at hx; exact hx.choose_spec.1)
  cases hg : h.get b with
  | dead => rw [hg] at h1; cases h1
  | view _ _ => rw [hg] at h1; cases h1
  | cells _ _ _ _ => rw [hg] at h1; cases h1
  | mp _ _ => rw [hg] at h1; cases h1
  | iter st pos =>
    rw [hg] at h1 hb
    simp only at h1
    obtain ⟨h0, h2⟩ := cond_val h1
    rw [Nat.beq_eq] at h0
    subst h0
    obtain ⟨p, hp, hB, hbase, hh⟩ := hb
    simp only [Rel] at hx
    obtain ⟨q, hq, rfl⟩ := hx
    rw [hp] at hq; cases hq
    have hgo : (getObj p.blk).run P w = .ok (.stringIter ⟨⟨st⟩⟩ pos) w := by simp only [getObj, Sem.run, hh]
    have hsz : (⟨⟨st⟩⟩ : ByteArray).size = st.length := rfl
    cases hlt : Nat.blt pos st.length with
    | true =>
      rw [hlt] at h2
      simp only [cond_true, OR.val.injEq] at h2
      obtain ⟨rfl, rfl⟩ := h2
      rw [Nat.blt_eq] at hlt
      let o' : Obj := .stringIter ⟨⟨st⟩⟩ (pos + (decodeL st pos).2)
      let w' : World := { w with heap := w.heap.setIfInBounds p.blk o' }
      have hplt := (Array.getElem?_eq_some_iff.1 hh).1
      have hso : (setObj p.blk o').run P w = .ok () w' := by simp only [setObj, Sem.run, hh]; rfl
      refine ⟨.tuple #[.bool true, goInt pos, .int .i32 (decodeL st pos).1], w', E, ?_, Env.le.refl E, ?_, s.set (p := p) (by rw [hg]; rfl) hp hB (by simp [w']) (fun j hj => ?_) rfl rfl rfl (fun _ _ _ e => by cases e) ?_⟩
      · simp only [Instr.next, hbase, Sem.run_bind, hgo, Result.andThen_ok, hsz, if_pos hlt]
        have : (Utf8.decode (⟨⟨st⟩⟩ : ByteArray) pos) = decodeL st pos := rfl
        simp only [this]
        rw [hso]
        rfl
      · simp only [Rel, RelL]
        exact ⟨_, rfl, _, _, rfl, rfl, _, _, rfl, rfl, _, _, rfl, rfl, rfl⟩
      · simp only [w', Array.getElem?_setIfInBounds]
        rw [if_neg (fun e => hj e.symm)]
      · exact ⟨p, hp, hB, hbase, by simp [w', hplt, o']⟩
    | false =>
      rw [hlt] at h2
      simp only [cond_false, OR.val.injEq] at h2
      obtain ⟨rfl, rfl⟩ := h2
      have hlt' : ¬ pos < st.length := by rw [← Nat.blt_eq, hlt]; simp
      refine Gives.plain (Z := .tuple #[.bool false]) s ?_ ?_
      · simp only [Instr.next, hbase, Sem.run_bind, hgo, Result.andThen_ok, hsz, if_neg hlt', Sem.run_pure]
      · simp only [Rel, RelL]
        exact ⟨_, rfl, _, _, rfl, rfl, rfl⟩
theorem rangeC_sound {w0 : Fr} {E : Env} {h h' : Heap} {w : World} (s : Sim w0 E h w) {t : TypeId} {x v : V} {X : Value} (hx : Rel E x X) (he : (rangeC P t).run x h = .val v h') : Gives w0 P E w (Instr.range t X) v h' := by
  unfold rangeC at he
  cases ht : tiOf P t with
  | none => rw [ht] at he; cases he
  | some ti =>
    rw [ht] at he
    simp only at he
    have hu := run_und ht
    cases hund : ti.und with
    | string =>
      rw [hund] at he hu
      simp only at he
      cases x <;> simp only at he <;> try (cases he; done)
      rename_i st
      simp only [OR.val.injEq] at he
      obtain ⟨rfl, rfl⟩ := he
      have := hx.str_of; subst this
      have hnone := s.fresh h.next (Nat.le_refl _)
      have hput : E.put (pa h.next) ⟨w.heap.size, 0, 0⟩ (pa h.next) = some ⟨w.heap.size, 0, 0⟩ := by unfold Env.put; rw [if_pos rfl]
      refine ⟨.pointer (some ⟨w.heap.size, 0, none⟩), { w with heap := w.heap.push (.stringIter ⟨⟨st⟩⟩ 0) }, _, ?_, Env.le_put (p := ⟨w.heap.size, 0, 0⟩) hnone, ?_, s.alloc 0 ?_⟩
      · simp only [Instr.range, Sem.run_bind, hu, Result.andThen_ok, Sem.run_pure, run_newObj]
      · simp only [Rel]; exact ⟨_, hput, by simp⟩
      · exact ⟨_, hput, s.frame.size, rfl, by simp⟩
    | _ => rw [hund] at he; cases he
theorem appC_sound {w0 : Fr} {E : Env} {h h' : Heap} {w : World} (s : Sim w0 E h w) {t u : TypeId} {x y v : V} {X Y : Value} {ty : TypeId}
    (he : (appC P t u).run x y h = .val v h') (hx : Rel E x X) (hy : Rel E y Y) : Gives w0 P E w (Builtin.append_ #[t, u] ty #[X, Y]) v h' := by
  unfold appC at he
  cases ht : tiOf P t with
  | none => rw [ht] at he; cases he
  | some ti =>
    cases hu : tiOf P u with
    | none => rw [ht, hu] at he; cases he
    | some ui =>
      rw [ht, hu] at he
      simp only at he
      have main : (∀ k, ui.und ≠ .int k) → (match ti.und with
          | .slice e => match tiOf P e with
            | none => (⟨fun _ _ _ => .fail⟩ : AppC)
            | some ei => match ei.zero with
              | none => ⟨fun _ _ _ => .fail⟩
              | some z => bif Nat.ble 1 ei.size && Nat.ble ei.bytes 4096 && Nat.beq z.cells.length ei.size then ⟨appV ei.size⟩ else ⟨fun _ _ _ => .fail⟩
          | _ => ⟨fun _ _ _ => .fail⟩).run x y h = .val v h' → Gives w0 P E w (Builtin.append_ #[t, u] ty #[X, Y]) v h' := by
        intro hni he
        cases hund : ti.und with
        | slice e =>
          rw [hund] at he
          simp only at he
          cases hte : tiOf P e with
          | none => rw [hte] at he; cases he
          | some ei =>
            rw [hte] at he
            simp only at he
            cases hz : ei.zero with
            | none => rw [hz] at he; cases he
            | some z =>
              rw [hz] at he
              simp only at he
              cases hc : (Nat.ble 1 ei.size && Nat.ble ei.bytes 4096 && Nat.beq z.cells.length ei.size) with
              | false => rw [hc] at he; cases he
              | true =>
                rw [hc] at he
                simp only [cond_true] at he
                simp only [Bool.and_eq_true, Nat.ble_eq, Nat.beq_eq] at hc
                obtain ⟨xz, hxz, _, hxs⟩ := zero_cells (P := P) (E := E) hte hz w
                refine appV_sound s ⟨fun w => ?_, ⟨ui.und, fun w => run_und hu w, hni⟩, fun w => run_size hte w, fun w => run_bytes hte w, ⟨xz, hxz, by rw [hxs]; exact hc.2⟩, hc.1.1, hc.1.2⟩ he hx hy
                have := run_und ht w
                rw [hund] at this
                exact this
        | _ => rw [hund] at he; cases he
      cases hui : ui.und with
      | int k => rw [hui] at he; cases he
      | _ => rw [hui] at he; exact main (by rw [hui]; simp) he
theorem copyC_sound {w0 : Fr} {E : Env} {h h' : Heap} {w : World} (s : Sim w0 E h w) {t : TypeId} {rest : List TypeId} {x y v : V} {X Y : Value} {ty : TypeId}
    (he : (copyC P t).run x y h = .val v h') (hx : Rel E x X) (hy : Rel E y Y) : Gives w0 P E w (Builtin.copy_ (t :: rest).toArray ty #[X, Y]) v h' := by
  unfold copyC at he
  cases ht : tiOf P t with
  | none => rw [ht] at he; cases he
  | some ti =>
    rw [ht] at he
    simp only at he
    cases hund : ti.und with
    | slice e =>
      rw [hund] at he
      simp only at he
      cases hte : tiOf P e with
      | none => rw [hte] at he; cases he
      | some ei =>
        rw [hte] at he
        simp only at he
        exact copyV_sound s (fun w => by have := run_und ht w; rw [hund] at this; exact this) (fun w => run_size hte w) he hx hy
    | _ => rw [hund] at he; cases he
theorem clear_sound {w0 : Fr} {E : Env} {h h' : Heap} {w : World} (s : Sim w0 E h w) {t : TypeId} {x v : V} {X : Value} {ty : TypeId} {z : List V} (hc : clearC P t = some z)
    (he : clearV z x h = .val v h') (hx : Rel E x X) : Gives w0 P E w (Builtin.clear_ #[t] ty #[X]) v h' := by
  unfold clearC at hc
  cases ht : tiOf P t with
  | none => rw [ht] at hc; cases hc
  | some ti =>
    rw [ht] at hc
    simp only at hc
    cases hund : ti.und with
    | slice e =>
      rw [hund] at hc
      simp only at hc
      cases hte : tiOf P e with
      | none => rw [hte] at hc; cases hc
      | some ei =>
        rw [hte] at hc
        simp only at hc
        cases hz : ei.zero with
        | none => rw [hz] at hc; cases hc
        | some z0 =>
          rw [hz] at hc
          simp only [Option.some.injEq] at hc
          subst hc
          have hu : ∀ w, (underlying t).run P w = .ok (.slice e) w := fun w => by have := run_und ht w; rw [hund] at this; exact this
          obtain ⟨z, hzr, hzl, hzs⟩ := zero_cells (P := P) (E := E) hte hz w
          have nothing : ∀ a c, X = .slice a 0 c → v = .tuple [] → h' = h → Gives w0 P E w (Builtin.clear_ #[t] ty #[X]) v h' := by
            intro a c hX hv hh
            subst hX hv hh
            refine ⟨.tuple #[], w, E, ?_, Env.le.refl E, ?_, s⟩
            · cases a <;> simp [Builtin.clear_, Sem.run_bind, hu, Result.andThen_ok, Sem.run_pure]
            · simp only [Rel]; exact ⟨_, rfl, rfl⟩
          have some' : ∀ (b : Pa) (off n c : Nat) (p : Pl), E b = some p → X = .slice (some ⟨p.blk, p.base + off, none⟩) n c → (bif Nat.beq n 0 then (OR.val (.tuple []) h) else (match lay h b off (repeatV z0.cells n) with
              | some h' => OR.val (.tuple []) h'
              | none => .fail)) = .val v h' → Gives w0 P E w (Builtin.clear_ #[t] ty #[X]) v h' := by
            intro b off n c p hp hX he
            cases n with
            | zero =>
              simp only [Nat.beq_refl, cond_true, OR.val.injEq] at he
              exact nothing _ _ hX he.1.symm he.2.symm
            | succ n =>
              simp only [show Nat.beq (n + 1) 0 = false from rfl, cond_false] at he
              cases hl : lay h b off (repeatV z0.cells (n + 1)) with
              | none => rw [hl] at he; cases he
              | some h1 =>
                rw [hl] at he
                simp only [OR.val.injEq] at he
                obtain ⟨rfl, rfl⟩ := he
                obtain ⟨w', g1, g2⟩ := lay_sound (P := P) s (repeat_rel hzl (n + 1)) hl hp
                subst hX
                refine ⟨.tuple #[], w', E, ?_, Env.le.refl E, ?_, g2⟩
                · simp only [Builtin.clear_, Sem.run_bind, List.getElem?_toArray, List.getElem?_cons_zero, hu, hzr, Result.andThen_ok]
                  have : (storeCells ⟨p.blk, p.base + off, none⟩ (Builtin.zeroCells z.cells (n + 1)).toList).run P w = .ok () w' := g1
                  simp [this, Sem.run_pure, Result.andThen_ok]
                · simp only [Rel]; exact ⟨_, rfl, rfl⟩
          unfold clearV at he
          cases x <;> simp only at he <;> try (cases he; done)
          · simp only [Rel] at hx
            obtain ⟨p, g1, g2, g3⟩ := hx
            exact some' _ _ _ _ p g1 g3 he
          · simp only [Rel] at hx
            obtain ⟨p, g1, g2, g3⟩ := hx
            exact some' _ _ _ _ p g1 g3 he
          · simp only [Rel] at hx
            obtain ⟨a, c, rfl⟩ := hx
            simp only [OR.val.injEq] at he
            exact nothing _ _ rfl he.1.symm he.2.symm
          · simp only [Rel] at hx
            simp only [OR.val.injEq] at he
            exact nothing _ _ hx he.1.symm he.2.symm
    | _ => rw [hund] at hc; cases hc
theorem cap_sound {E : Env} {t : TypeId} {ti : TI} {x v : V} {X : Value} {ty : TypeId} (ht : tiOf P t = some ti) (hs : isSliceD ti.und = true) (he : capV x = some v) (hx : Rel E x X) (w : World) :
    ∃ Z, (Builtin.cap_ #[t] ty #[X]).run P w = .ok Z w ∧ Rel E v Z := by
  cases hund : ti.und with
  | slice e =>
    have hu : ∀ w, (underlying t).run P w = .ok (.slice e) w := fun w => by have := run_und ht w; rw [hund] at this; exact this
    cases x <;> simp only [capV] at he <;> try (cases he; done)
    · simp only [Rel] at hx
      obtain ⟨p, _, _, rfl⟩ := hx
      cases he
      refine ⟨_, ?_, rfl⟩
      simp [Builtin.cap_, Sem.run_bind, hu, Result.andThen_ok, Sem.run_pure]
      rfl
    · simp only [Rel] at hx
      subst hx
      cases he
      refine ⟨_, ?_, rfl⟩
      simp [Builtin.cap_, Sem.run_bind, hu, Result.andThen_ok, Sem.run_pure]
      rfl
  | _ => rw [hund] at hs; cases hs
theorem toArray_eta {α : Type} (a : Array α) : a.toList.toArray = a := by simp
theorem builtC_sound {w0 : Fr} {E : Env} {h h' : Heap} {w : World} (s : Sim w0 E h w) {b : Builtin} {ts : Array TypeId} {args : List V} {xs : List Value} {v : V} {ty : TypeId} {cs : Array Bool} (hl : RelL E args xs)
    (he : (builtC P b ts.toList).run args h = .val v h') : ∃ m : Sem Value, Go.builtin b ts ty cs xs.toArray = (do pure (.value (← m))) ∧ Gives w0 P E w m v h' := by
  have one : ∀ {x : V}, RelL E [x] xs → ∃ X, xs = [X] ∧ Rel E x X := by
    intro x h
    simp only [RelL] at h
    obtain ⟨y, ys, rfl, hy, rfl⟩ := h
    exact ⟨y, rfl, hy⟩
  have two : ∀ {x y : V}, RelL E [x, y] xs → ∃ X Y, xs = [X, Y] ∧ Rel E x X ∧ Rel E y Y := by
    intro x y h
    simp only [RelL] at h
    obtain ⟨X, _, rfl, hX, Y, _, rfl, hY, rfl⟩ := h
    exact ⟨X, Y, rfl, hX, hY⟩
  cases b <;> simp only [builtC] at he <;> try (simp [BuiltC.none] at he; done)
  · -- append
    cases hts : ts.toList with
    | nil => rw [hts] at he; simp [BuiltC.none] at he
    | cons t ts1 =>
      rw [hts] at he
      cases ts1 with
      | nil => simp [BuiltC.none] at he
      | cons u ts2 =>
        cases ts2 with
        | cons _ _ => simp [BuiltC.none] at he
        | nil =>
          simp only at he
          match args, he, hl with
          | [x, y], he, hl =>
            obtain ⟨X, Y, rfl, hX, hY⟩ := two hl
            have e : ts = #[t, u] := by rw [← toArray_eta ts, hts]
            exact ⟨_, rfl, by rw [e]; exact appC_sound s he hX hY⟩
          | [], he, _ => cases he
          | [_], he, _ => cases he
          | _ :: _ :: _ :: _, he, _ => cases he
  · -- cap
    cases hts : ts.toList with
    | nil => rw [hts] at he; simp [BuiltC.none] at he
    | cons t ts1 =>
      rw [hts] at he
      cases ts1 with
      | cons _ _ => simp [BuiltC.none] at he
      | nil =>
        simp only at he
        cases ht : tiOf P t with
        | none => rw [ht] at he; simp [BuiltC.none] at he
        | some ti =>
          rw [ht] at he
          simp only at he
          cases hs : isSliceD ti.und with
          | false => rw [hs] at he; simp [BuiltC.none] at he
          | true =>
            rw [hs] at he
            simp only [cond_true] at he
            match args, he, hl with
            | [x], he, hl =>
              obtain ⟨X, rfl, hX⟩ := one hl
              have e : ts = #[t] := by rw [← toArray_eta ts, hts]
              obtain ⟨he2, rfl⟩ := OR.of_val he
              obtain ⟨Z, hZ, hR⟩ := cap_sound (P := P) (ty := ty) ht hs he2 hX w
              exact ⟨_, rfl, by rw [e]; exact Gives.plain s hZ hR⟩
            | [], he, _ => cases he
            | _ :: _ :: _, he, _ => cases he
  · -- clear
    cases hts : ts.toList with
    | nil => rw [hts] at he; simp [BuiltC.none] at he
    | cons t ts1 =>
      rw [hts] at he
      cases ts1 with
      | cons _ _ => simp [BuiltC.none] at he
      | nil =>
        simp only at he
        cases hc : clearC P t with
        | none => rw [hc] at he; simp [BuiltC.none] at he
        | some z =>
          rw [hc] at he
          simp only at he
          match args, he, hl with
          | [x], he, hl =>
            obtain ⟨X, rfl, hX⟩ := one hl
            have e : ts = #[t] := by rw [← toArray_eta ts, hts]
            exact ⟨_, rfl, by rw [e]; exact clear_sound s hc he hX⟩
          | [], he, _ => cases he
          | _ :: _ :: _, he, _ => cases he
  · -- copy
    cases hts : ts.toList with
    | nil => rw [hts] at he; simp [BuiltC.none] at he
    | cons t ts1 =>
      rw [hts] at he
      simp only at he
      match args, he, hl with
      | [x, y], he, hl =>
        obtain ⟨X, Y, rfl, hX, hY⟩ := two hl
        have e : ts = (t :: ts1).toArray := by rw [← toArray_eta ts, hts]
        exact ⟨_, rfl, by rw [e]; exact copyC_sound s he hX hY⟩
      | [], he, _ => cases he
      | [_], he, _ => cases he
      | _ :: _ :: _ :: _, he, _ => cases he
  · -- len
    cases hts : ts.toList with
    | nil => rw [hts] at he; simp [BuiltC.none] at he
    | cons t ts1 =>
      rw [hts] at he
      cases ts1 with
      | cons _ _ => simp [BuiltC.none] at he
      | nil =>
        simp only at he
        cases ht : tiOf P t with
        | none => rw [ht] at he; simp [BuiltC.none] at he
        | some ti =>
          rw [ht] at he
          simp only at he
          match args, he, hl with
          | [x], he, hl =>
            obtain ⟨X, rfl, hX⟩ := one hl
            have e : ts = [t].toArray := by rw [← toArray_eta ts, hts]
            cases hm : isMapD ti.und with
            | true =>
              rw [hm] at he
              exact ⟨_, rfl, by rw [e]; exact lenMap_sound s ht hm hX ty [] he⟩
            | false =>
              rw [hm] at he
              simp only [cond_false] at he
              obtain ⟨he2, rfl⟩ := OR.of_val he
              obtain ⟨Z, hZ, hR⟩ := lenOne_sound (P := P) ht he2 hX ty [] w
              exact ⟨_, rfl, by rw [e]; exact Gives.plain s hZ hR⟩
          | [], he, _ => cases hm : isMapD ti.und <;> rw [hm] at he <;> cases he
          | _ :: _ :: _, he, _ => cases hm : isMapD ti.und <;> rw [hm] at he <;> cases he
  · -- max
    obtain ⟨he2, rfl⟩ := OR.of_val he
    clear he
    cases args with
    | nil => cases he2
    | cons x args =>
      simp only [pickV] at he2
      obtain ⟨k, a, rfl, h1⟩ := onInt_some he2
      simp only [RelL] at hl
      obtain ⟨X, ys, rfl, hX, hl⟩ := hl
      have := hX.int_of; subst this
      obtain ⟨Z, hZ, hR⟩ := pickFrom_sound (P := P) false args ys k a v hl h1 w
      exact ⟨_, rfl, Gives.plain (Z := Z) s (by simpa [Builtin.max_] using hZ) hR⟩
  · -- min
    obtain ⟨he2, rfl⟩ := OR.of_val he
    clear he
    cases args with
    | nil => cases he2
    | cons x args =>
      simp only [pickV] at he2
      obtain ⟨k, a, rfl, h1⟩ := onInt_some he2
      simp only [RelL] at hl
      obtain ⟨X, ys, rfl, hX, hl⟩ := hl
      have := hX.int_of; subst this
      obtain ⟨Z, hZ, hR⟩ := pickFrom_sound (P := P) true args ys k a v hl h1 w
      exact ⟨_, rfl, Gives.plain (Z := Z) s (by simpa [Builtin.min_] using hZ) hR⟩
end
end Go.Proofs.YtjbiefneffiogaaGreat.Am

namespace Go.Proofs.YtjbiefneffiogaaGreat.Am
variable [Lay]
open Go Go.RowKit
section
variable {P : Program}
def NamesOk (P : Program) : Prop := ∀ (f : FuncId) (fn : Func), P.funcs[f]? = some fn → (fn.name == "runtime.NumGoroutine") = false
theorem run_callFunc (hN : NamesOk P) {f : FuncId} {fn : Func} (hf : P.funcs[f]? = some fn) (hb : fn.body.isSome = true) (args : Array Value) (w : World) : (callFunc f args).run P w = .ok (.enter f args) w := by
  have hb' : fn.body.isNone = false := by cases h : fn.body with | none => rw [h] at hb; cases hb | some c => rfl
  simp only [callFunc, Sem.run_bind, run_program, Result.andThen_ok, hf]
  rw [if_neg (by rw [hN f fn hf]; simp)]
  simp [hb']
theorem mapToList {α β : Type} (f : α → β) (a : Array α) : a.map f = (a.toList.map f).toArray := by
  apply Array.ext'
  simp
theorem parts_array (ρ : Operand → Value) (ps : Array (Nat × Operand)) : (ps.map fun (i, x) => (i, ρ x)) = (ps.toList.map fun (i, x) => (i, ρ x)).toArray := by
  apply Array.ext'
  simp
def CallBody (P : Program) (call : CallF) : Prop := ∀ f args h v h', call f args h = .val v h' → True
set_option maxHeartbeats 2000000 in
theorem cop_sound {w0 : Fr} {E : Env} {h h' : Heap} {w : World} {call : CallF} (hN : NamesOk P) (hcall : CallOk P call) (hbody : CallBody P call) {o : Oper} {nt : Nat} {r : Regs} {a : Act} {v : V}
    (he : (cop P o).run call r h = .val v h') (k : RegRel E nt r a) (s : Sim w0 E h w) {K : Act → World → Prop} {Q : Exit → Act → World → Prop}
    (hK : ∀ E' x w', E.le E' → Rel E' v x → Sim w0 E' h' w' → K (a.put o.dst x) w') : o.wp P a w K Q := by
  obtain ⟨dst, op, type, pos, after, guard⟩ := o
  cases op <;> simp only [cop] at he <;> try (simp [OpC.none] at he; done)
  case move x =>
    simp only [OR.val.injEq] at he; obtain ⟨rfl, rfl⟩ := he
    exact wp_gives (m := pure (a.eval x)) rfl (Gives.plain s rfl (evC_sound k x)) hK
  case assign x =>
    simp only [OR.val.injEq] at he; obtain ⟨rfl, rfl⟩ := he
    exact wp_gives (m := pure (a.eval x)) rfl (Gives.plain s rfl (evC_sound k x)) hK
  case pick c x y =>
    have hc := evC_sound k c
    generalize (evC c).run r = vc at he hc
    cases vc <;> simp only at he <;> try (cases he; done)
    rename_i t
    simp only [OR.val.injEq] at he; obtain ⟨rfl, rfl⟩ := he
    simp only [Rel] at hc
    refine wp_gives (m := do pure (if ← asBool (a.eval c) then a.eval x else a.eval y)) (by simp only [execOp, bind_assoc, pure_bind]) (Gives.plain (Z := if t then a.eval x else a.eval y) s ?_ ?_) hK
    · rw [hc]; rfl
    · cases t
      · exact evC_sound k y
      · exact evC_sound k x
  case alloc t =>
    cases ht : tiOf P t with
    | none => rw [ht] at he; simp [OpC.none] at he
    | some ti =>
      rw [ht] at he
      simp only at he
      cases hz : ti.zero with
      | none => rw [hz] at he; simp [OpC.none] at he
      | some z =>
        rw [hz] at he
        simp only at he
        cases hn : newCells h z.cells with
        | none => rw [hn] at he; cases he
        | some h1 =>
          rw [hn] at he
          simp only [orHeap, OR.val.injEq] at he; obtain ⟨rfl, rfl⟩ := he
          obtain ⟨x, hx, hxr, _⟩ := zero_cells (P := P) (E := E) ht hz w
          obtain ⟨E', g1, g2, g3, g4⟩ := newCells_sound (P := P) s hxr hn t
          have g3' : (newRow t x.cells).run P w = .ok ⟨w.heap.size, 0, none⟩ { w with heap := w.heap.push (.cells x.cells t) } := by simpa using g3
          have g4' : Sim w0 E' h1 { w with heap := w.heap.push (.cells x.cells t) } := by simpa using g4
          exact wp_gives (m := Instr.alloc t true (.tuple #[])) rfl ⟨.pointer (some ⟨w.heap.size, 0, none⟩), _, E', by simp only [Instr.alloc, Sem.run_bind, hx, Result.andThen_ok, newVar, g3', Sem.run_pure], g1, by simp only [Rel]; exact ⟨_, g2, by simp⟩, g4'⟩ hK
  case box t x =>
    obtain ⟨hg, he⟩ := cond_val he
    cases hn : newCells h ((evC x).run r).cells with
    | none => rw [hn] at he; cases he
    | some h1 =>
      rw [hn] at he
      simp only [orHeap, OR.val.injEq] at he; obtain ⟨rfl, rfl⟩ := he
      have hl := (evC_sound k x).cells (fun e => by rw [e] at hg; cases hg)
      obtain ⟨E', g1, g2, g3, g4⟩ := newCells_sound (P := P) s hl hn t
      have g3' : (newRow t (a.eval x).cells).run P w = .ok ⟨w.heap.size, 0, none⟩ { w with heap := w.heap.push (.cells (a.eval x).cells t) } := by simpa using g3
      have g4' : Sim w0 E' h1 { w with heap := w.heap.push (.cells (a.eval x).cells t) } := by simpa using g4
      exact wp_gives (m := Instr.box t (a.eval x)) rfl ⟨.pointer (some ⟨w.heap.size, 0, none⟩), _, E', by simp only [Instr.box, Sem.run_bind, newVar, g3', Result.andThen_ok, Sem.run_pure], g1, by simp only [Rel]; exact ⟨_, g2, by simp⟩, g4'⟩ hK
  case build t ps =>
    obtain ⟨he2, rfl⟩ := OR.of_val he
    clear he
    obtain ⟨Z, hZ, hR⟩ := buildC_sound (P := P) (partsC_sound k ps.toList) he2 w
    refine wp_gives (m := Instr.build t (ps.map fun (i, x) => (i, a.eval x))) rfl (Gives.plain (Z := Z) s ?_ hR) hK
    rw [parts_array]; exact hZ
  case buildSlice t n ps =>
    refine wp_gives (m := Instr.buildSlice t n (ps.map fun (i, x) => (i, a.eval x))) rfl ?_ hK
    rw [parts_array]
    exact buildSliceC_sound s (partsC_sound k ps.toList) he
  case load t x =>
    obtain ⟨he2, rfl⟩ := OR.of_val he
    clear he
    obtain ⟨Y, hY, hR, _⟩ := loadC_sound (P := P) s (evC_sound k x) he2
    exact wp_gives (m := Instr.loadAt t (a.eval x)) rfl (Gives.plain s hY hR) hK
  case store t x y =>
    cases hst : (storeC P t).run h ((evC x).run r) ((evC y).run r) with
    | none => rw [hst] at he; cases he
    | some h1 =>
      rw [hst] at he
      simp only [orHeap, OR.val.injEq] at he; obtain ⟨rfl, rfl⟩ := he
      obtain ⟨w', hrun, hs'⟩ := storeC_sound (P := P) s (evC_sound k x) (evC_sound k y) hst
      unfold Oper.wp
      have : execOp a.eval ⟨dst, .store t x y, type, pos, after, guard⟩ = (do Instr.storeAt t (a.eval x) (a.eval y); pure .skip) := rfl
      rw [this, Sem.run_bind, hrun]
      exact hK E undef w' (Env.le.refl E) (by simp [Rel]) hs'
  case nilCheck x =>
    obtain ⟨he2, rfl⟩ := OR.of_val he
    clear he
    have hx := evC_sound k x
    generalize (evC x).run r = vx at he2 hx
    have hgo : ∀ X, Rel E vx X → (match X with
        | .pointer none | .nilIface | .nilFunc => (runtimePanic .nilDeref : Sem Next)
        | .func (.method name) first captured =>
          match (first[0]? : Option Value) with
          | some .nilIface => runtimePanic .nilDeref
          | some (.iface t w) => do
            if (← nilAhead ((← program).types.size + Made.depth) t w name) != some false then
              unsupported (.noEntry "op/nilCheck.the method's receiver behind this interface value is a nil pointer, or cannot be seen to be none, and the arguments act or may panic (ledger 612)")
            pure (.value (.func (.method name) first captured))
          | _ => pure (.value (.func (.method name) first captured))
        | x => pure (.value x)) = pure (.value X) ∧ v = vx := by
      intro X hX
      cases vx <;> simp only [nilCheckV] at he2 <;> try (cases he2; done)
      all_goals simp only [Option.some.injEq] at he2
      all_goals simp only [Rel] at hX
      · obtain ⟨p, _, rfl⟩ := hX; exact ⟨rfl, he2.symm⟩
      · obtain ⟨p, rfl, _⟩ := hX; exact ⟨rfl, he2.symm⟩
      · obtain ⟨p, rfl, _⟩ := hX; exact ⟨rfl, he2.symm⟩
    obtain ⟨h1, rfl⟩ := hgo _ hx
    exact wp_gives (m := pure (a.eval x)) (by simp only [execOp]; rw [pure_bind]; exact h1) (Gives.plain s rfl hx) hK
  case binOp op t x y u =>
    obtain ⟨he2, rfl⟩ := OR.of_val he
    clear he
    obtain ⟨Z, hZ, hR⟩ := binL_sound (P := P) (ox := x) (oy := y) he2 (evC_sound k x) (evC_sound k y) w
    exact wp_gives rfl (Gives.plain s hZ hR) hK
  case unOp op t x =>
    obtain ⟨he2, rfl⟩ := OR.of_val he
    clear he
    obtain ⟨Z, hZ, hR⟩ := unV_sound (P := P) he2 (evC_sound k x) w
    exact wp_gives (m := Op.unary op (a.eval x)) rfl (Gives.plain s hZ hR) hK
  case convert t u x => exact wp_gives (m := convert t u (a.eval x)) rfl (convC_sound s he (evC_sound k x)) hK
  case makeInterface t x =>
    cases ht : tiOf P t with
    | none => rw [ht] at he; simp [OpC.none] at he
    | some ti =>
      rw [ht] at he
      simp only at he
      cases hb : Nat.beq (nilKindD ti.und) 5 with
      | true => rw [hb] at he; simp [OpC.none] at he
      | false =>
        rw [hb] at he
        simp only [cond_false, OR.val.injEq] at he; obtain ⟨rfl, rfl⟩ := he
        refine wp_gives (m := Instr.makeInterface t (a.eval x)) rfl (Gives.plain (Z := .iface t (a.eval x)) s ?_ ?_) hK
        · have hu := run_und ht w
          simp only [Instr.makeInterface, Sem.run_bind, hu, Result.andThen_ok]
          cases hund : ti.und <;> first
            | rfl
            | (rw [hund] at hb; simp [nilKindD] at hb)
        · simp only [Rel]; exact ⟨_, rfl, evC_sound k x⟩
  case makeFunc fn first caps =>
    cases fn <;> simp only at he <;> try (simp [OpC.none] at he; done)
    rename_i f
    cases hf : first.isEmpty with
    | false => rw [hf] at he; simp [OpC.none] at he
    | true =>
      rw [hf] at he
      simp only [cond_true, OR.val.injEq] at he; obtain ⟨rfl, rfl⟩ := he
      have hfe : first = #[] := by simpa using hf
      subst hfe
      refine wp_gives (m := Instr.makeFunc (.func f) #[] (caps.map a.eval)) (by simp [execOp]) (Gives.plain s rfl ?_) hK
      simp only [Rel]
      exact ⟨_, rfl, by rw [mapToList]; simpa using evsC_sound k caps.toList⟩
  case makeSlice t l c => exact wp_gives (m := Instr.makeSlice t (a.eval l) (a.eval c)) rfl (makeSliceC_sound s (evC_sound k l) (evC_sound k c) he) hK
  case slice t x lo hi mx =>
    obtain ⟨he2, rfl⟩ := OR.of_val he
    clear he
    obtain ⟨Z, hZ, hR⟩ := sliceC_sound (P := P) he2 (evC_sound k x) (optC_sound k lo) (optC_sound k hi) (optC_sound k mx) w
    exact wp_gives (m := Instr.sliceAt t (a.eval x) (lo.map a.eval) (hi.map a.eval) (mx.map a.eval)) rfl (Gives.plain s hZ hR) hK
  case fieldAddr t x i =>
    obtain ⟨he2, rfl⟩ := OR.of_val he
    clear he
    obtain ⟨Z, hZ, hR⟩ := fieldAddrC_sound (P := P) he2 (evC_sound k x) w
    exact wp_gives (m := Instr.fieldAt t (a.eval x) i) rfl (Gives.plain s hZ hR) hK
  case field t x i =>
    obtain ⟨he2, rfl⟩ := OR.of_val he
    clear he
    obtain ⟨Z, hZ, hR⟩ := fieldC_sound (P := P) he2 (evC_sound k x) w
    exact wp_gives (m := Instr.field t (a.eval x) i) rfl (Gives.plain s hZ hR) hK
  case indexAddr t x i =>
    obtain ⟨he2, rfl⟩ := OR.of_val he
    clear he
    obtain ⟨Z, hZ, hR⟩ := indexAddrC_sound (P := P) he2 (evC_sound k x) (evC_sound k i) w
    exact wp_gives (m := Instr.indexAt t (a.eval x) (a.eval i)) rfl (Gives.plain s hZ hR) hK
  case index t x i =>
    obtain ⟨he2, rfl⟩ := OR.of_val he
    clear he
    obtain ⟨Z, hZ, hR⟩ := indexC_sound (P := P) he2 (evC_sound k x) (evC_sound k i) w
    exact wp_gives (m := Instr.index t (a.eval x) (a.eval i)) rfl (Gives.plain s hZ hR) hK
  case range t x => exact wp_gives (m := Instr.range t (a.eval x)) rfl (rangeC_sound s (evC_sound k x) he) hK
  case next it isS =>
    cases isS <;> simp only at he <;> try (simp [OpC.none] at he; done)
    exact wp_gives (m := Instr.next (a.eval it) true type) rfl (nextV_sound s (evC_sound k it) he) hK
  case lookup t x y ok =>
    obtain ⟨he2, rfl⟩ := OR.of_val he
    clear he
    obtain ⟨Z, hZ, hR⟩ := lookupC_sound (P := P) s (evC_sound k x) (evC_sound k y) he2
    exact wp_gives (m := Instr.lookup t (a.eval x) (a.eval y) ok) rfl (Gives.plain s hZ hR) hK
  case mapUpdate t m y x =>
    cases hst : (updC P t).run h ((evC m).run r) ((evC y).run r) ((evC x).run r) with
    | none => rw [hst] at he; cases he
    | some h1 =>
      rw [hst] at he
      simp only [orHeap, OR.val.injEq] at he; obtain ⟨rfl, rfl⟩ := he
      obtain ⟨w', hrun, hs'⟩ := updC_sound (P := P) s (evC_sound k m) (evC_sound k y) (evC_sound k x) hst
      unfold Oper.wp
      have : execOp a.eval ⟨dst, .mapUpdate t m y x, type, pos, after, guard⟩ = (do Instr.mapUpdate t (a.eval m) (a.eval y) (a.eval x); pure .skip) := rfl
      rw [this, Sem.run_bind, hrun]
      exact hK E undef w' (Env.le.refl E) (by simp [Rel]) hs'
  case insert t m y x =>
    cases hst : (updC P t).run h ((evC m).run r) ((evC y).run r) ((evC x).run r) with
    | none => rw [hst] at he; cases he
    | some h1 =>
      rw [hst] at he
      simp only [orHeap, OR.val.injEq] at he; obtain ⟨rfl, rfl⟩ := he
      obtain ⟨w', hrun, hs'⟩ := updC_sound (P := P) s (evC_sound k m) (evC_sound k y) (evC_sound k x) hst
      unfold Oper.wp
      have : execOp a.eval ⟨dst, .insert t m y x, type, pos, after, guard⟩ = (do Instr.mapUpdate t (a.eval m) (a.eval y) (a.eval x); pure .skip) := rfl
      rw [this, Sem.run_bind, hrun]
      exact hK E undef w' (Env.le.refl E) (by simp [Rel]) hs'
  case makeMap t x => exact wp_gives (m := Instr.makeMap t (x.map a.eval)) rfl (makeMapC_sound s (optC_sound k x) he) hK
  case extract x i =>
    have hx := evC_sound k x
    generalize (evC x).run r = vx at he hx
    cases vx <;> simp only at he <;> try (cases he; done)
    obtain ⟨he2, rfl⟩ := OR.of_val he
    clear he
    simp only [Rel] at hx
    obtain ⟨arr, hX, hl⟩ := hx
    obtain ⟨y, hy, hR⟩ := hl.get i v he2
    refine wp_gives (m := Instr.extract (a.eval x) i) rfl (Gives.plain (Z := y) s ?_ hR) hK
    rw [hX]
    have : arr[i]? = some y := by simpa using hy
    simp only [Instr.extract, this, Sem.run_pure]
  case call c =>
    obtain ⟨callee, args, types⟩ := c
    cases callee with
    | invoke _ _ => simp [callC, OpC.none] at he
    | builtin b =>
      simp only [callC] at he
      obtain ⟨cs, hcs⟩ : ∃ cs, execOp a.eval ⟨dst, .call ⟨.builtin b, args, types⟩, type, pos, after, guard⟩ = Go.builtin b types type cs (args.map a.eval) := by
        simp only [execOp, resolve, pure_bind, invoke]
        exact ⟨_, rfl⟩
      obtain ⟨m, hm, hg⟩ := builtC_sound (P := P) (ty := type) (cs := cs) s (evsC_sound k args.toList) he
      refine wp_gives (m := m) ?_ hg hK
      rw [hcs, ← hm, mapToList]
    | value f =>
      simp only [callC] at he
      have hf := evC_sound k f
      generalize hvf : (evC f).run r = vf at he hf
      cases vf <;> simp only [V.onFunc] at he <;> try (cases he; done)
      rename_i g cs
      simp only [Rel] at hf
      obtain ⟨caps, hX, hl⟩ := hf
      have hargs := (evsC_sound k args.toList).append hl
      have hcc := hcall _ _ _ _ _ _ he E w _ hargs s
      unfold Oper.wp
      have hex : execOp a.eval ⟨dst, .call ⟨.value f, args, types⟩, type, pos, after, guard⟩ = callFunc g (args.map a.eval ++ caps) := by
        simp only [execOp, resolve, hX, Deferred.ofValue, pure_bind, invoke]
        simp
      have e : args.map a.eval ++ caps = (args.toList.map a.eval ++ caps.toList).toArray := by
        apply Array.ext'; simp
      rw [hex, e]
      rcases hcc with ⟨⟨fn, hfn, hb⟩, hc⟩ | ⟨E', x, w', hr, q1, q2, q3⟩
      case inr =>
        rw [hr]
        exact hK E' x w' q1 q2 q3
      rw [run_callFunc hN hfn hb]
      simp only [Oper.upon]
      refine hc.mono fun e w' hq => ?_
      obtain ⟨E', x, rfl, q1, q2, q3⟩ := hq
      exact hK E' x w' q1 q2 q3
end
end Go.Proofs.YtjbiefneffiogaaGreat.Am

namespace Go.Proofs.YtjbiefneffiogaaGreat.Am
variable [Lay]
open Go Go.RowKit
section
variable {P : Program}
theorem guard_sound {E : Env} {nt : Nat} {r : Regs} {a : Act} (k : RegRel E nt r a) {all : Array Oper} {j : Nat} {g : Oper} {d : Nat} (hj : all[j]? = some g) (hd : g.dst = some d) (hdn : d < nt) (hdt : d ≤ top) :
    (∀ b, T.get .bad (pa d) r = .bool b → yielded all a.tmps j = some b) ∧ (∀ vs, T.get .bad (pa d) r = .tuple vs → yielded all a.tmps j = none) := by
  have hr := k.reg d hdt
  have hlt : d < a.tmps.size := by rw [k.size]; exact hdn
  have he : a.tmps[d]? = some (a.tmps.getD d undef) := by simp [Array.getD_eq_getD_getElem?, hlt]
  refine ⟨fun b hb => ?_, fun vs hb => ?_⟩
  · rw [hb] at hr
    simp only [Rel] at hr
    simp only [yielded, hj, Option.bind, hd, he, hr]
  · rw [hb] at hr
    simp only [Rel] at hr
    obtain ⟨arr, hr, _⟩ := hr
    simp only [yielded, hj, Option.bind, hd, he, hr]
theorem operRun_ok {op : OpC} {put : PutC} {call : CallF} {r r' : Regs} {h h' : Heap} (he : operRun op put call r h = .ok r' h') : ∃ v, op.run call r h = .val v h' ∧ r' = put.run r v := by
  unfold operRun at he
  cases ho : op.run call r h with
  | fail => rw [ho] at he; cases he
  | val v h1 =>
    rw [ho] at he
    simp only [RR.ok.injEq] at he
    obtain ⟨rfl, rfl⟩ := he
    exact ⟨v, rfl, rfl⟩
theorem operC_sound {w0 : Fr} {E : Env} {h h' : Heap} {w : World} {call : CallF} (hN : NamesOk P) (hcall : CallOk P call) (hbody : CallBody P call) {all : Array Oper} {i : Nat} {o : Oper} (hi : all[i]? = some o) {nt : Nat} {r r' : Regs} {a : Act}
    (he : (operC P nt all o).run call r h = .ok r' h') (k : RegRel E nt r a) (s : Sim w0 E h w) {K : Act → World → Prop} {Q : Exit → Act → World → Prop}
    (hK : ∀ E' a' w', E.le E' → RegRel E' nt r' a' → Sim w0 E' h' w' → K a' w') : wpOp P all Q i K a w := by
  unfold operC at he
  cases hd : dstFine nt o.dst with
  | false => rw [hd] at he; cases he
  | true =>
    rw [hd] at he
    simp only [cond_true] at he
    have wanted : ∀ (r1 : Regs), operRun (cop P o) (putC o.dst) call r h = .ok r1 h' → r1 = r' → Region.wanted o (yielded all a.tmps) = true → wpOp P all Q i K a w := by
      intro r1 h1 e hw
      subst e
      obtain ⟨v, hv, rfl⟩ := operRun_ok h1
      simp only [wpOp, hi, hw, if_true]
      left
      exact cop_sound hN hcall hbody hv k s fun E' x w' q1 q2 q3 => hK E' _ w' q1 ((k.mono q1).put hd q2) q3
    have unwanted : r' = (putC o.dst).run r (.tuple []) → h' = h → Region.wanted o (yielded all a.tmps) = false → wpOp P all Q i K a w := by
      intro e1 e2 hw
      subst e1 e2
      simp only [wpOp, hi, hw, Bool.false_eq_true, if_false]
      exact hK E _ w (Env.le.refl E) (k.put hd (by simp only [Rel]; exact ⟨#[], rfl, rfl⟩)) s
    cases hg : o.guard with
    | none =>
      rw [hg] at he
      exact wanted r' he rfl (by simp [Region.wanted, hg])
    | some jw =>
      obtain ⟨j, want⟩ := jw
      rw [hg] at he
      simp only at he
      cases hj : all[j]? with
      | none => rw [hj] at he; cases he
      | some g =>
        rw [hj] at he
        simp only at he
        cases hgd : g.dst with
        | none => rw [hgd] at he; cases he
        | some d =>
          rw [hgd] at he
          simp only at he
          cases hc : (Nat.blt d nt && Nat.ble d top) with
          | false => rw [hc] at he; cases he
          | true =>
            rw [hc] at he
            simp only [cond_true, guardRun, evTmp] at he
            simp only [Bool.and_eq_true, Nat.blt_eq, Nat.ble_eq] at hc
            obtain ⟨g1, g2⟩ := guard_sound k hj hgd hc.1 hc.2
            cases hv : T.get .bad (pa d) r <;> rw [hv] at he <;> simp only at he <;> try (cases he; done)
            · rename_i b
              have hy := g1 b hv
              cases hb : (bif want then b else !b) with
              | true =>
                rw [hb] at he
                simp only [cond_true] at he
                refine wanted r' he rfl ?_
                simp only [Region.wanted, hg, hy]
                cases want <;> cases b <;> simp_all
              | false =>
                rw [hb] at he
                simp only [cond_false, RR.ok.injEq] at he
                refine unwanted he.1.symm he.2.symm ?_
                simp only [Region.wanted, hg, hy]
                cases want <;> cases b <;> simp_all
            · rename_i vs
              have hy := g2 vs hv
              simp only [RR.ok.injEq] at he
              refine unwanted he.1.symm he.2.symm ?_
              simp only [Region.wanted, hg, hy]
              rfl
theorem opsC_sound {w0 : Fr} {call : CallF} (hN : NamesOk P) (hcall : CallOk P call) (hbody : CallBody P call) {all : Array Oper} {nt : Nat} {Q : Exit → Act → World → Prop} : ∀ (l : List Oper) (i : Nat), (∀ j, l[j]? = all[i + j]?) →
    ∀ (E : Env) (r r' : Regs) (h h' : Heap) (a : Act) (w : World), (opsC P nt all l).run call r h = .ok r' h' → RegRel E nt r a → Sim w0 E h w →
    (∀ E' a' w', E.le E' → RegRel E' nt r' a' → Sim w0 E' h' w' → Q .normal a' w') → wpOps P all Q (List.range' i l.length) a w
  | [], i, _, E, r, r', h, h', a, w, he, k, s, hQ => by
    simp only [opsC, RR.ok.injEq] at he
    obtain ⟨rfl, rfl⟩ := he
    simp only [List.length_nil, List.range'_zero, wpOps]
    exact hQ E a w (Env.le.refl E) k s
  | o :: os, i, hl, E, r, r', h, h', a, w, he, k, s, hQ => by
    simp only [opsC, seqRun] at he
    have hi : all[i]? = some o := by have := hl 0; simpa using this.symm
    cases h1 : (operC P nt all o).run call r h with
    | fail => rw [h1] at he; cases he
    | ok r1 hh1 =>
      rw [h1] at he
      simp only at he
      rw [List.length_cons, List.range'_succ, wpOps_cons]
      refine operC_sound hN hcall hbody hi h1 k s fun E' a' w' q1 q2 q3 => ?_
      refine opsC_sound hN hcall hbody os (i + 1) (fun j => ?_) E' r1 r' hh1 h' a' w' he q2 q3 fun E2 a2 w2 p1 p2 p3 => hQ E2 a2 w2 (q1.trans p1) p2 p3
      have := hl (j + 1)
      simp only [List.getElem?_cons_succ] at this
      rw [this]
      congr 1
      omega
end
end Go.Proofs.YtjbiefneffiogaaGreat.Am

namespace Go.Proofs.YtjbiefneffiogaaGreat.Am
variable [Lay]
open Go Go.RowKit
theorem Pa.eqB_eq : ∀ {p q : Pa}, Pa.eqB p q = true → p = q
  | .z, .z, _ => rfl
  | .l p, .l q, h => by rw [Pa.eqB_eq (p := p) (q := q) h]
  | .r p, .r q, h => by rw [Pa.eqB_eq (p := p) (q := q) h]
  | .z, .l _, h => by cases h
  | .z, .r _, h => by cases h
  | .l _, .z, h => by cases h
  | .l _, .r _, h => by cases h
  | .r _, .z, h => by cases h
  | .r _, .l _, h => by cases h
theorem eqV1_eq {a b : V} (h : eqV1 a b = true) : a = b := by
  cases a <;> cases b <;> simp only [eqV1] at h <;> first
    | rfl
    | (cases h; done)
    | (rename_i x y; cases x <;> cases y <;> simp_all; done)
    | (rename_i k x l y
       simp only [Bool.and_eq_true] at h
       have h1 := eqKind_eq h.1
       have h2 := h.2
       rw [eqB_eq, beq_iff_eq] at h2
       rw [h1, h2]; done)
    | (rw [beqBytes_eq, beq_iff_eq] at h; rw [h]; done)
    | (simp only [Bool.and_eq_true, Nat.beq_eq] at h
       obtain ⟨h1, h2, h3, h4⟩ := h
       rw [Pa.eqB_eq h1, h2, h3, h4]; done)
    | (simp only [Bool.and_eq_true, Nat.beq_eq] at h
       rw [Pa.eqB_eq h.1, h.2]; done)
    | (rw [Pa.eqB_eq h]; done)
    | (simp only [Bool.and_eq_true, Nat.beq_eq, List.isEmpty_iff] at h
       obtain ⟨h1, h2, h3⟩ := h
       rw [h1, h2, h3]; done)
    | (simp only [Bool.and_eq_true, List.isEmpty_iff] at h
       rw [h.1, h.2]; done)
theorem eqLs_eq {f : V → V → Bool} (hf : ∀ a b, f a b = true → a = b) : ∀ {a b : List V}, eqLs f a b = true → a = b
  | [], [], _ => rfl
  | [], _ :: _, h => by cases h
  | _ :: _, [], h => by cases h
  | a :: x, b :: y, h => by
    simp only [eqLs] at h
    cases h1 : f a b with
    | false => rw [h1] at h; cases h
    | true =>
      rw [h1] at h
      rw [hf a b h1, eqLs_eq hf h]
theorem bif_true {c x : Bool} (h : (bif c then x else false) = true) : c = true ∧ x = true := by
  cases c with
  | false => cases h
  | true => exact ⟨rfl, h⟩
theorem eqVd_eq : ∀ (d : Nat) (a b : V), eqVd d a b = true → a = b
  | 0, a, b, h => eqV1_eq h
  | d + 1, a, b, h => by
    have ih := eqVd_eq d
    cases a <;> simp only [eqVd] at h <;> first
      | exact eqV1_eq h
      | (cases b <;> simp only at h <;> first
          | (cases h; done)
          | rfl
          | (rw [eqLs_eq ih h]; done)
          | (obtain ⟨h1, h2⟩ := bif_true h
             rw [Nat.beq_eq] at h1
             rw [h1]
             first
               | rw [eqLs_eq ih h2]
               | rw [ih _ _ h2]))
theorem eqV_eq {a b : V} (h : eqV a b = true) : a = b := eqVd_eq 5 a b h
theorem bitB_eq (m i : Nat) : bitB m i = m.testBit i := by
  rw [Nat.testBit_eq_decide_div_mod_eq]
  unfold bitB
  have e : Nat.mod (Nat.shiftRight m i) 2 = m / 2 ^ i % 2 := by
    show (m >>> i) % 2 = _
    rw [Nat.shiftRight_eq_div_pow]
  rw [e, Bool.eq_iff_iff, Nat.beq_eq, decide_eq_true_eq]
theorem maskOf_bit {masks : List Nat} {i : Nat} : ∀ {es : List Edge}, bitB (maskOf masks es) i = true → ∃ e ∈ es, bindsB e = true ∧ (e.on = i ∨ bitB ((masks[e.on]?).getD 0) i = true)
  | [], h => by simp [maskOf, bitB_eq] at h
  | e :: es, h => by
    simp only [maskOf] at h
    cases hb : bindsB e with
    | false =>
      rw [hb] at h
      obtain ⟨e', h1, h2⟩ := maskOf_bit (es := es) h
      exact ⟨e', by simp [h1], h2⟩
    | true =>
      rw [hb] at h
      simp only [cond_true, bitB_eq] at h
      have h' : ((1 <<< e.on ||| (masks[e.on]?).getD 0) ||| maskOf masks es).testBit i = true := h
      rw [Nat.testBit_or, Nat.testBit_or, Bool.or_eq_true, Bool.or_eq_true] at h'
      rcases h' with (h1 | h1) | h1
      · refine ⟨e, by simp, hb, .inl ?_⟩
        rw [Nat.testBit_shiftLeft] at h1
        simp only [Bool.and_eq_true, decide_eq_true_eq] at h1
        have := h1.2
        rw [Nat.testBit_one_eq_true_iff_self_eq_zero] at this
        omega
      · exact ⟨e, by simp, hb, .inr (by rw [bitB_eq]; exact h1)⟩
      · rw [← bitB_eq] at h1
        obtain ⟨e', q1, q2⟩ := maskOf_bit (es := es) h1
        exact ⟨e', by simp [q1], q2⟩
def DownP (ops : Array Oper) (L : Nat → Prop) : Prop := ∀ k o e, L k → ops[k]? = some o → e ∈ o.after.toList → bindsB e = true → L e.on
theorem masksFrom_ok {ops : Array Oper} {L : Nat → Prop} (hD : DownP ops L) : ∀ (os : List Oper) (masks : List Nat), (∀ j, os[j]? = ops[masks.length + j]?) →
    (∀ k m i, masks[k]? = some m → bitB m i = true → L k → L i) → ∀ k m i, (masksFrom masks os)[k]? = some m → bitB m i = true → L k → L i
  | [], masks, _, h, k, m, i, hk, hb, hL => h k m i hk hb hL
  | o :: os, masks, hos, h, k, m, i, hk, hb, hL => by
    simp only [masksFrom] at hk
    refine masksFrom_ok hD os (masks ++ [maskOf masks o.after.toList]) (fun j => ?_) (fun k m i hk hb hL => ?_) k m i hk hb hL
    · have := hos (j + 1)
      simp only [List.getElem?_cons_succ] at this
      rw [this]
      congr 1
      simp
      omega
    · by_cases hlt : k < masks.length
      · rw [List.getElem?_append_left hlt] at hk
        exact h k m i hk hb hL
      · rw [List.getElem?_append_right (by omega)] at hk
        have hk0 : k - masks.length = 0 := by
          cases hz : k - masks.length with
          | zero => rfl
          | succ n => rw [hz] at hk; simp at hk
        rw [hk0] at hk
        simp only [List.getElem?_cons_zero, Option.some.injEq] at hk
        subst hk
        have hko : k = masks.length := by omega
        have ho : ops[k]? = some o := by have := hos 0; simp only [List.getElem?_cons_zero, Nat.add_zero] at this; rw [hko]; exact this.symm
        obtain ⟨e, he, hbe, hor⟩ := maskOf_bit hb
        have hLe := hD k o e hL ho he hbe
        rcases hor with rfl | hor
        · exact hLe
        · cases hm : masks[e.on]? with
          | none => rw [hm] at hor; simp [bitB_eq] at hor
          | some m' => rw [hm] at hor; exact h e.on m' i hm hor hLe
theorem zipAll_get {f : Nat → Nat → Oper → Bool} : ∀ {k : Nat} {ms : List Nat} {os : List Oper}, zipAll f k ms os = true → ∀ j o, os[j]? = some o → ∃ m, ms[j]? = some m ∧ f (k + j) m o = true
  | _, _, [], _, j, o, h => by simp at h
  | _, [], _ :: _, h, _, _, _ => by cases h
  | k, m :: ms, o' :: os, h, j, o, ho => by
    simp only [zipAll, Bool.and_eq_true] at h
    cases j with
    | zero => simp only [List.getElem?_cons_zero, Option.some.injEq] at ho; subst ho; exact ⟨m, rfl, h.1⟩
    | succ j =>
      obtain ⟨m', h1, h2⟩ := zipAll_get h.2 j o (by simpa using ho)
      exact ⟨m', by simpa using h1, by rw [show k + (j + 1) = k + 1 + j from by omega]; exact h2⟩
theorem zipAll_mk {f : Nat → Nat → Oper → Bool} : ∀ {k : Nat} {ms : List Nat} {os : List Oper}, ms.length = os.length → (∀ j m o, ms[j]? = some m → os[j]? = some o → f (k + j) m o = true) → zipAll f k ms os = true
  | _, [], [], _, _ => rfl
  | _, [], _ :: _, h, _ => by simp at h
  | _, _ :: _, [], h, _ => by simp at h
  | k, m :: ms, o :: os, h, hf => by
    simp only [zipAll, Bool.and_eq_true]
    refine ⟨hf 0 m o rfl rfl, zipAll_mk (by simpa using h) fun j m' o' h1 h2 => ?_⟩
    have := hf (j + 1) m' o' (by simpa using h1) (by simpa using h2)
    rw [show k + 1 + j = k + (j + 1) from by omega]
    exact this
theorem masksFrom_length : ∀ (os : List Oper) (masks : List Nat), (masksFrom masks os).length = masks.length + os.length
  | [], masks => rfl
  | o :: os, masks => by simp [masksFrom, masksFrom_length os]; omega
section
variable {P : Program}
theorem cop_quiet {o : Oper} {call : CallF} {r : Regs} {h h' : Heap} {v : V} (hq : isEff P o.op = false) (he : (cop P o).run call r h = .val v h') : h' = h := by
  obtain ⟨dst, op, type, pos, after, guard⟩ := o
  cases op <;> simp only [isEff] at hq <;> try (cases hq; done)
  all_goals simp only [cop] at he
  case convert s d x =>
    unfold convC at he
    cases hs : tiOf P s with
    | none => rw [hs] at he; cases he
    | some si =>
      cases hd : tiOf P d with
      | none => rw [hd] at hq; cases hq
      | some di =>
        rw [hs, hd] at he
        rw [hd] at hq
        simp only at he hq
        cases hu : di.und with
        | int k =>
          rw [hu] at he
          obtain ⟨k', n, _, h1⟩ := onInt_val he
          simp only [OR.val.injEq] at h1
          exact h1.2.symm
        | slice e => rw [hu] at hq; cases hq
        | string =>
          rw [hu] at he
          simp only at he
          have other : ∀ x : V, (match x with
              | .str s => OR.val (.str s) h
              | .int _ n => .val (.str (Utf8.encode n).data.toList) h
              | _ => .fail) = .val v h' → h' = h := by
            intro x he
            cases x <;> simp only at he <;> first
              | (cases he; done)
              | (simp only [OR.val.injEq] at he; exact he.2.symm)
          cases hsu : si.und with
          | slice e =>
            rw [hsu] at he
            simp only at he
            cases hte : tiOf P e with
            | none => rw [hte] at he; cases he
            | some ei =>
              rw [hte] at he
              simp only at he
              have strq : ∀ b off len, strAt b off len h = .val v h' → h' = h := by
                intro b off len he
                unfold strAt at he
                cases hg : h.get b <;> rw [hg] at he <;> simp only [Blk.see] at he <;> try (cases he; done)
                all_goals
                  obtain ⟨_, h2⟩ := cond_val he
                  cases hu8 : uint8s (gets _ off len) <;> rw [hu8] at h2 <;> first
                    | (cases h2; done)
                    | (simp only [OR.val.injEq] at h2; exact h2.2.symm)
              cases hei : ei.und with
              | int ke =>
                rw [hei] at he
                cases ke <;> simp only at he <;> try (cases he; done)
                simp only [convStr] at he
                cases hx : (evC x).run r <;> rw [hx] at he <;> simp only at he <;> first
                  | (cases he; done)
                  | exact strq _ _ _ he
                  | (simp only [OR.val.injEq] at he; exact he.2.symm)
              | _ => rw [hei] at he; cases he
          | _ => rw [hsu] at he; exact other _ he
        | _ => rw [hu] at he; cases he
  case call c =>
    obtain ⟨callee, args, types⟩ := c
    cases callee <;> simp only at hq <;> try (cases hq; done)
    rename_i b
    simp only [callC] at he
    cases b <;> simp only at hq <;> try (cases hq; done)
    · simp only [builtC] at he
      cases hts : types.toList with
      | nil => rw [hts] at he; simp [BuiltC.none] at he
      | cons t ts =>
        cases ts with
        | cons _ _ => rw [hts] at he; simp [BuiltC.none] at he
        | nil =>
          rw [hts] at he
          simp only at he
          cases ht : tiOf P t with
          | none => rw [ht] at he; simp [BuiltC.none] at he
          | some ti =>
            rw [ht] at he
            rw [hts] at hq
            simp only [isMapTop, ht] at hq
            simp only [hq, cond_false] at he
            split at he
            · exact (OR.of_val he).2
            · cases he
    · exact (OR.of_val he).2
    · exact (OR.of_val he).2
  case move => simp only [OR.val.injEq] at he; exact he.2.symm
  case assign => simp only [OR.val.injEq] at he; exact he.2.symm
  case pick c a b =>
    split at he
    · simp only [OR.val.injEq] at he; exact he.2.symm
    · cases he
  case makeFunc fn first caps =>
    cases fn <;> simp only at he <;> try (simp [OpC.none] at he; done)
    cases hf : first.isEmpty <;> rw [hf] at he
    · simp [OpC.none] at he
    · simp only [cond_true, OR.val.injEq] at he; exact he.2.symm
  case makeInterface t x =>
    cases ht : tiOf P t with
    | none => rw [ht] at he; simp [OpC.none] at he
    | some ti =>
      rw [ht] at he
      simp only at he
      cases hb : Nat.beq (nilKindD ti.und) 5 <;> rw [hb] at he
      · simp only [cond_false, OR.val.injEq] at he; exact he.2.symm
      · simp [OpC.none] at he
  case extract x i =>
    split at he
    · exact (OR.of_val he).2
    · cases he
  all_goals exact (OR.of_val he).2
theorem OR.of_any {h h' : Heap} {x : Option V} {v : V} (he : OR.of h x = .val v h') (H : Heap) : OR.of H x = .val v H := by
  rw [(OR.of_val he).1]; rfl
theorem cop_pure {o : Oper} {call : CallF} {r : Regs} {h h' : Heap} {v : V} (hq : isEff P o.op = false) (hl : looks o.op = false) (he : (cop P o).run call r h = .val v h') (H : Heap) : (cop P o).run call r H = .val v H := by
  obtain ⟨dst, op, type, pos, after, guard⟩ := o
  cases op <;> simp only [isEff] at hq <;> try (cases hq; done)
  all_goals simp only [looks] at hl <;> try (cases hl; done)
  all_goals simp only [cop] at he ⊢
  case call c =>
    obtain ⟨callee, args, types⟩ := c
    cases callee <;> simp only at hq <;> try (cases hq; done)
    rename_i b
    simp only [callC] at he ⊢
    cases b <;> simp only at hq <;> try (cases hq; done)
    · simp only [builtC] at he ⊢
      cases hts : types.toList with
      | nil => rw [hts] at he; simp [BuiltC.none] at he
      | cons t ts =>
        cases ts with
        | cons _ _ => rw [hts] at he; simp [BuiltC.none] at he
        | nil =>
          rw [hts] at he
          simp only at he ⊢
          cases ht : tiOf P t with
          | none => rw [ht] at he; simp [BuiltC.none] at he
          | some ti =>
            rw [ht] at he
            rw [hts] at hq
            simp only [isMapTop, ht] at hq
            simp only [hq, cond_false] at he ⊢
            split at he
            · exact OR.of_any he H
            · cases he
    · exact OR.of_any he H
    · exact OR.of_any he H
  case move => simp only [OR.val.injEq] at he; rw [he.1]
  case assign => simp only [OR.val.injEq] at he; rw [he.1]
  case pick c a b =>
    split at he
    · simp only [OR.val.injEq] at he; rw [he.1]
    · cases he
  case makeFunc fn first caps =>
    cases fn <;> simp only at he ⊢ <;> try (simp [OpC.none] at he; done)
    cases hf : first.isEmpty <;> rw [hf] at he
    · simp [OpC.none] at he
    · simp only [cond_true, OR.val.injEq] at he ⊢; exact ⟨he.1, trivial⟩
  case makeInterface t x =>
    cases ht : tiOf P t with
    | none => rw [ht] at he; simp [OpC.none] at he
    | some ti =>
      rw [ht] at he
      simp only at he ⊢
      cases hb : Nat.beq (nilKindD ti.und) 5 <;> rw [hb] at he
      · simp only [cond_false, OR.val.injEq] at he ⊢; exact ⟨he.1, trivial⟩
      · simp [OpC.none] at he
  case extract x i =>
    split at he
    · exact OR.of_any he H
    · cases he
  all_goals exact OR.of_any he H
end
end Go.Proofs.YtjbiefneffiogaaGreat.Am

namespace Go.Proofs.YtjbiefneffiogaaGreat.Am
variable [Lay]
open Go Go.RowKit
section
variable {P : Program}
def Makes (P : Program) (E : Env) (m : Sem Value) (v : V) (h h' : Heap) : Prop :=
  ∃ k, h' = h.new k ∧ True ∧ ∀ w, ∃ X ob, m.run P w = .ok X { w with heap := w.heap.push ob } ∧
    ∀ E', E.le E' → E' (pa h.next) = some ⟨w.heap.size, 0, 0⟩ → Rel E' v X ∧ ∀ B, B ≤ w.heap.size → BlkRel B E' { w with heap := w.heap.push ob } (pa h.next) k
theorem newCells_makes {E : Env} {h h' : Heap} {vs : List V} {l : List Value} (hl : RelL E vs l) (he : newCells h vs = some h') (t : TypeId) :
    ∃ k, h' = h.new k ∧ True ∧ ∀ w, (newRow t l.toArray).run P w = .ok ⟨w.heap.size, 0, none⟩ { w with heap := w.heap.push (.cells l.toArray t) } ∧
      ∀ E', E.le E' → E' (pa h.next) = some ⟨w.heap.size, 0, 0⟩ → ∀ B, B ≤ w.heap.size → BlkRel B E' { w with heap := w.heap.push (.cells l.toArray t) } (pa h.next) k := by
  unfold newCells at he
  obtain ⟨hc, he⟩ := cond_some he
  rw [Nat.ble_eq] at hc
  cases he
  refine ⟨_, rfl, trivial, fun w => ⟨by simp [newRow], fun E' hle hput B hB => ?_⟩⟩
  have := fresh_cells (RelL.mono hle _ _ hl) hc #[]
  rw [Array.append_empty] at this
  exact ⟨hc, _, _, t, (0, 0), hput, hB, by simp, .inr (Nat.le_refl _), fun _ => rfl, fun h => absurd rfl h, this⟩
theorem buildSlice_makes {E : Env} {h h' : Heap} {t : TypeId} {n : Nat} {ps : List (Nat × V)} {qs : List (Nat × Value)} {v : V} (hp : RelP E ps qs) (he : (buildSliceC P t n).run ps h = .val v h') :
    Makes P E (Instr.buildSlice t n qs.toArray) v h h' := by
  unfold buildSliceC at he
  cases ht : tiOf P t with
  | none => rw [ht] at he; cases he
  | some ti =>
    rw [ht] at he
    simp only at he
    have hu := run_und ht
    cases hund : ti.und with
    | slice e =>
      rw [hund] at he hu
      simp only at he
      cases hte : tiOf P e with
      | none => rw [hte] at he; cases he
      | some ei =>
        rw [hte] at he
        simp only at he
        cases hz : ei.zero with
        | none => rw [hz] at he; cases he
        | some z =>
          rw [hz] at he
          simp only at he
          cases hc : (Nat.ble (n * ei.size) 1000000 && Nat.beq z.cells.length ei.size) with
          | false => rw [hc] at he; cases he
          | true =>
            rw [hc] at he
            simp only [cond_true] at he
            simp only [Bool.and_eq_true, Nat.ble_eq, Nat.beq_eq] at hc
            cases hf : fillV (fun i => some (i * ei.size, ei.size)) (repeatV z.cells n) ps with
            | none => rw [hf] at he; cases he
            | some cs =>
              rw [hf] at he
              simp only at he
              cases hn : newCells h cs with
              | none => rw [hn] at he; cases he
              | some h1 =>
                rw [hn] at he
                simp only [OR.val.injEq] at he
                obtain ⟨rfl, rfl⟩ := he
                obtain ⟨x, hx, hxr, hxs⟩ := zero_cells (P := P) (E := E) hte hz ⟨#[], fun _ _ => 0, 0, default, #[]⟩
                have hxs' : x.cells.size = ei.size := by rw [hxs, hc.2]
                have hrep := repeat_rel hxr n
                rw [hxs'] at hrep
                obtain ⟨b, hb1, hb2⟩ := fillV_sound (a := (Array.range (n * ei.size)).map (x.cells[· % x.cells.size]!)) hp (by rw [hxs']; exact hrep) hf
                obtain ⟨k, g1, g2, g3⟩ := newCells_makes (P := P) hb2 hn e
                refine ⟨k, g1, g2, fun w => ⟨.slice (some ⟨w.heap.size, 0, none⟩) n n, .cells b e, ?_, fun E' hle hput => ⟨?_, ?_⟩⟩⟩
                · have hlim : ¬ 16777216 < n * ei.size := by omega
                  have hg3 : (newRow e b).run P w = .ok ⟨w.heap.size, 0, none⟩ { w with heap := w.heap.push (.cells b e) } := by simpa using (g3 w).1
                  by_cases h0 : n * ei.size = 0
                  · have hb1' : Instr.fill (fun i => some (i * ei.size, ei.size)) ((Array.range (n * ei.size)).map ((#[] : Array Value)[· % 0]!)) qs = some b := by
                      have e1 : (Array.range (n * ei.size)).map ((#[] : Array Value)[· % 0]!) = (Array.range (n * ei.size)).map (x.cells[· % x.cells.size]!) := by
                        rw [h0]; simp
                      rw [e1]; exact hb1
                    have hb1'' : Instr.fill (fun i => some (i * ei.size, ei.size)) ((Array.range (n * ei.size)).map (fun x => (#[] : Array Value)[x % (#[] : Array Value).size]!)) qs = some b := hb1'
                    simp only [Instr.buildSlice, Sem.run_bind, hu, Result.andThen_ok, run_size hte, Sem.run_ite]
                    rw [if_neg hlim]
                    simp only [Sem.run_pure, Result.andThen_ok, if_pos h0]
                    rw [hb1'']
                    simp only [Sem.run_bind, hg3, Result.andThen_ok, Sem.run_pure]
                  · simp only [Instr.buildSlice, Sem.run_bind, hu, Result.andThen_ok, run_size hte, Sem.run_ite]
                    rw [if_neg hlim]
                    simp only [Sem.run_pure, Result.andThen_ok, if_neg h0, hx]
                    rw [hb1]
                    simp only [Sem.run_bind, hg3, Result.andThen_ok, Sem.run_pure]
                · simp only [Rel]
                  exact ⟨_, hput, Nat.le_refl _, by simp⟩
                · simpa using (g3 w).2 E' hle hput
    | _ => rw [hund] at he; cases he
set_option maxHeartbeats 2000000 in
theorem cop_makes {E : Env} {h h' : Heap} {call : CallF} {o : Oper} {nt : Nat} {r : Regs} {a : Act} {v : V} (ha : isAlloc o = true) (he : (cop P o).run call r h = .val v h') (k : RegRel E nt r a) :
    ∃ m : Sem Value, execOp a.eval o = (do pure (.value (← m))) ∧ Makes P E m v h h' := by
  obtain ⟨dst, op, type, pos, after, guard⟩ := o
  cases op <;> simp only [isAlloc] at ha <;> try (cases ha; done)
  all_goals simp only [cop] at he
  case alloc t =>
    refine ⟨Instr.alloc t true (.tuple #[]), rfl, ?_⟩
    cases ht : tiOf P t with
    | none => rw [ht] at he; simp [OpC.none] at he
    | some ti =>
      rw [ht] at he
      simp only at he
      cases hz : ti.zero with
      | none => rw [hz] at he; simp [OpC.none] at he
      | some z =>
        rw [hz] at he
        simp only at he
        cases hn : newCells h z.cells with
        | none => rw [hn] at he; cases he
        | some h1 =>
          rw [hn] at he
          simp only [orHeap, OR.val.injEq] at he; obtain ⟨rfl, rfl⟩ := he
          obtain ⟨x, hx, hxr, _⟩ := zero_cells (P := P) (E := E) ht hz ⟨#[], fun _ _ => 0, 0, default, #[]⟩
          obtain ⟨kk, g1, g2, g3⟩ := newCells_makes (P := P) hxr hn t
          refine ⟨kk, g1, g2, fun w => ⟨.pointer (some ⟨w.heap.size, 0, none⟩), .cells x.cells t, ?_, fun E' hle hput => ⟨?_, ?_⟩⟩⟩
          · have := (g3 w).1
            simp only [Array.toArray_toList] at this
            simp only [Instr.alloc, Sem.run_bind, hx, Result.andThen_ok, newVar, this, Sem.run_pure]
          · simp only [Rel]; exact ⟨_, hput, by simp⟩
          · simpa using (g3 w).2 E' hle hput
  case box t x =>
    refine ⟨Instr.box t (a.eval x), rfl, ?_⟩
    obtain ⟨hg, he⟩ := cond_val he
    cases hn : newCells h ((evC x).run r).cells with
    | none => rw [hn] at he; cases he
    | some h1 =>
      rw [hn] at he
      simp only [orHeap, OR.val.injEq] at he; obtain ⟨rfl, rfl⟩ := he
      have hl := (evC_sound k x).cells (fun e => by rw [e] at hg; cases hg)
      obtain ⟨kk, g1, g2, g3⟩ := newCells_makes (P := P) hl hn t
      refine ⟨kk, g1, g2, fun w => ⟨.pointer (some ⟨w.heap.size, 0, none⟩), .cells (a.eval x).cells t, ?_, fun E' hle hput => ⟨?_, ?_⟩⟩⟩
      · have := (g3 w).1
        simp only [Array.toArray_toList] at this
        simp only [Instr.box, Sem.run_bind, newVar, this, Result.andThen_ok, Sem.run_pure]
      · simp only [Rel]; exact ⟨_, hput, by simp⟩
      · simpa using (g3 w).2 E' hle hput
  case buildSlice t n ps =>
    refine ⟨Instr.buildSlice t n (ps.map fun (i, x) => (i, a.eval x)), rfl, ?_⟩
    rw [parts_array]
    exact buildSlice_makes (partsC_sound k ps.toList) he
  case makeMap t x =>
    cases x with
    | some _ => cases ha
    | none =>
      refine ⟨Instr.makeMap t none, rfl, ?_⟩
      simp only [optC, makeMapC] at he
      cases ht : tiOf P t with
      | none => rw [ht] at he; cases he
      | some ti =>
        rw [ht] at he
        simp only at he
        cases hb : Nat.beq (nilKindD ti.und) 3 with
        | false => rw [hb] at he; cases he
        | true =>
          rw [hb] at he
          simp only [cond_true, makeMapV, newMap] at he
          simp only [OR.val.injEq] at he
          obtain ⟨rfl, rfl⟩ := he
          refine ⟨_, rfl, trivial, fun w => ⟨.map (some w.heap.size), .map #[] 0, ?_, fun E' hle hput => ⟨?_, fun B hB => ?_⟩⟩⟩
          · simp only [Instr.makeMap, Sem.run_bind, run_newObj, Result.andThen_ok, Sem.run_pure]
          · simp only [Rel]; exact ⟨_, hput, rfl⟩
          · exact ⟨_, #[], hput, hB, by simp, rfl⟩
def Fr.hold (F : Fr) (b : Pa) (k : Blk) : Fr := ⟨F.w, fun b' => if b' = b then some k else F.pend b'⟩
def Fr.free (F : Fr) (b : Pa) : Fr := ⟨F.w, fun b' => if b' = b then none else F.pend b'⟩
theorem Sim.hold {F : Fr} {E : Env} {h : Heap} {w : World} (s : Sim F E h w) (k : Blk) : Sim (F.hold (pa h.next) k) E (h.new k) w := by
  have hnone := s.fresh h.next (Nat.le_refl _)
  refine ⟨fun b hb => ?_, fun b k' hk => ?_, fun b b' p p' h1 h2 e1 e2 hbb => ?_, fun i hi => s.fresh i (Nat.le_of_succ_le hi), s.frame, s.laid, fun b p n cs st h1 e1 => s.base b p n cs st (by
    have n1 : pa h.next ≠ b := fun e => by rw [← e, hnone] at e1; cases e1
    rwa [Heap.get_new, if_neg n1] at h1) e1⟩
  · simp only [Fr.hold] at hb
    by_cases hq : b = pa h.next
    · rw [if_pos hq] at hb; cases hb
    · rw [if_neg hq] at hb
      rw [Heap.get_new, if_neg (fun e => hq e.symm)]
      exact s.blk b hb
  · simp only [Fr.hold] at hk
    by_cases hq : b = pa h.next
    · rw [if_pos hq] at hk
      cases hk
      exact ⟨by rw [Heap.get_new, if_pos hq.symm], by rw [hq]; exact hnone, h.next, Nat.lt_succ_self _, hq⟩
    · rw [if_neg hq] at hk
      obtain ⟨q1, q2, i, q3, q4⟩ := s.pen b k' hk
      exact ⟨by rw [Heap.get_new, if_neg (fun e => hq e.symm)]; exact q1, q2, i, Nat.lt_succ_of_lt q3, q4⟩
  · have n1 : pa h.next ≠ b := fun e => by rw [← e, hnone] at e1; cases e1
    have n2 : pa h.next ≠ b' := fun e => by rw [← e, hnone] at e2; cases e2
    rw [Heap.get_new, if_neg n1] at h1
    rw [Heap.get_new, if_neg n2] at h2
    exact s.inj b b' p p' h1 h2 e1 e2 hbb
theorem Sim.link {F : Fr} {E : Env} {h : Heap} {w : World} (s : Sim F E h w) {b : Pa} {k : Blk} (hp : F.pend b = some k) {o : Obj}
    (hrel : BlkRel F.w.heap.size (E.put b ⟨w.heap.size, 0, 0⟩) { w with heap := w.heap.push o } b k) :
    E.le (E.put b ⟨w.heap.size, 0, 0⟩) ∧ Sim (F.free b) (E.put b ⟨w.heap.size, 0, 0⟩) h { w with heap := w.heap.push o } := by
  obtain ⟨hk, hnone, i0, hi0, hbi⟩ := s.pen b k hp
  have hle : E.le (E.put b ⟨w.heap.size, 0, 0⟩) := Env.le_put hnone
  have hput : E.put b ⟨w.heap.size, 0, 0⟩ b = some ⟨w.heap.size, 0, 0⟩ := by unfold Env.put; rw [if_pos rfl]
  have hold : ∀ b', b' ≠ b → E.put b ⟨w.heap.size, 0, 0⟩ b' = E b' := by intro b' hb; unfold Env.put; rw [if_neg hb]
  have hblk : ∀ b' q, E b' = some q → (h.get b') ≠ .dead → q.blk < w.heap.size := by
    intro b' q hq hd
    have hb := s.at hq
    cases hg : h.get b' with
    | dead => exact absurd hg hd
    | view n cs => rw [hg] at hb; obtain ⟨_, q', c, el, fz, e, _, hh, _⟩ := hb; rw [e] at hq; cases hq; exact (Array.getElem?_eq_some_iff.1 hh).1
    | cells n cs esz st => rw [hg] at hb; obtain ⟨_, q', c, el, fz, e, _, hh, _⟩ := hb; rw [e] at hq; cases hq; exact (Array.getElem?_eq_some_iff.1 hh).1
    | iter st pos => rw [hg] at hb; obtain ⟨q', e, _, _, hh⟩ := hb; rw [e] at hq; cases hq; exact (Array.getElem?_eq_some_iff.1 hh).1
    | mp es clock => rw [hg] at hb; obtain ⟨q', a, e, _, hh, _⟩ := hb; rw [e] at hq; cases hq; exact (Array.getElem?_eq_some_iff.1 hh).1
  refine ⟨hle, fun b' hb' => ?_, fun b' k' hk' => ?_, fun b1 b2 p1 p2 h1 h2 e1 e2 hbb => ?_, fun i hi => ?_, ⟨s.frame.os, s.frame.tape, s.frame.output, ?_, fun j hj => ?_⟩, s.laid, fun b1 p1 n cs st h1 e1 => by
    by_cases c1 : b1 = b
    · subst c1; rw [hput] at e1; cases e1; rfl
    · rw [hold b1 c1] at e1; exact s.base _ _ _ _ _ h1 e1⟩
  · by_cases hq : b' = b
    · subst hq; rw [hk]; exact hrel
    · simp only [Fr.free, if_neg hq] at hb'
      have h0 := (s.blk b' hb').mono hle
      by_cases hd : h.get b' = .dead
      · rw [hd]; trivial
      · refine BlkRel.keep h0 fun q hq' => ?_
        rw [hold b' hq] at hq'
        have := hblk b' q hq' hd
        simp only [Array.getElem?_push]
        rw [if_neg (by omega)]
  · simp only [Fr.free] at hk'
    by_cases hq : b' = b
    · rw [if_pos hq] at hk'; cases hk'
    · rw [if_neg hq] at hk'
      obtain ⟨q1, q2, q3⟩ := s.pen b' k' hk'
      exact ⟨q1, by rw [hold b' hq]; exact q2, q3⟩
  · by_cases c1 : b1 = b <;> by_cases c2 : b2 = b
    · exact c1.trans c2.symm
    · subst c1
      rw [hput] at e1; cases e1
      rw [hold b2 c2] at e2
      have := hblk b2 p2 e2 (fun e => by rw [e] at h2; cases h2)
      simp only at hbb
      omega
    · subst c2
      rw [hput] at e2; cases e2
      rw [hold b1 c1] at e1
      have := hblk b1 p1 e1 (fun e => by rw [e] at h1; cases h1)
      simp only at hbb
      omega
    · rw [hold b1 c1] at e1
      rw [hold b2 c2] at e2
      exact s.inj b1 b2 p1 p2 h1 h2 e1 e2 hbb
  · rw [hold _ (fun e => ?_)]
    · exact s.fresh i hi
    · rw [hbi] at e
      have := pa_inj e
      omega
  · have := s.frame.size
    simp only [Array.size_push, Fr.free]
    omega
  · have h1 := s.frame.size
    simp only [Fr.free, Array.getElem?_push]
    rw [if_neg (by simp only [Fr.free] at hj; omega)]
    exact s.frame.block j hj
end
end Go.Proofs.YtjbiefneffiogaaGreat.Am

namespace Go.Proofs.YtjbiefneffiogaaGreat.Am
variable [Lay]
open Go Go.RowKit
section
variable {P : Program}
def regAt (es : List Ent) (rf : Regs) (i : Nat) : Regs :=
  match es[i]? with
  | some e => e.r
  | none => rf
theorem heapAt_succ (e : Ent) (es : List Ent) (hf : Heap) (i : Nat) : heapAt (e :: es) hf (i + 1) = heapAt es hf i := by simp [heapAt]
theorem regAt_succ (e : Ent) (es : List Ent) (rf : Regs) (i : Nat) : regAt (e :: es) rf (i + 1) = regAt es rf i := by simp [regAt]
theorem stepsD_spec {nt : Nat} {all : Array Oper} {call : CallF} : ∀ {l : List Oper} {r rf : Regs} {h hf : Heap} {es : List Ent}, (stepsD P nt all l).run call r h = .ok es rf hf →
    es.length = l.length ∧ heapAt es hf 0 = h ∧ regAt es rf 0 = r ∧ ∀ j o, l[j]? = some o → ∃ e, es[j]? = some e ∧ (dopC P nt all o).run call e.r e.h = .val e.v (heapAt es hf (j + 1)) ∧ regAt es rf (j + 1) = (putC o.dst).run e.r e.v
  | [], r, rf, h, hf, es, he => by
    simp only [stepsD, DR.ok.injEq] at he
    obtain ⟨rfl, rfl, rfl⟩ := he
    exact ⟨rfl, rfl, rfl, fun j o ho => by simp at ho⟩
  | o :: os, r, rf, h, hf, es, he => by
    simp only [stepsD, stepD] at he
    cases h1 : (dopC P nt all o).run call r h with
    | fail => rw [h1] at he; cases he
    | val v hh =>
      rw [h1] at he
      simp only at he
      cases h2 : (stepsD P nt all os).run call ((putC o.dst).run r v) hh with
      | fail => rw [h2] at he; cases he
      | ok es1 r1 h3 =>
        rw [h2] at he
        simp only [DR.ok.injEq] at he
        obtain ⟨rfl, rfl, rfl⟩ := he
        obtain ⟨q1, q2, q3, q4⟩ := stepsD_spec h2
        refine ⟨by simp [q1], by simp [heapAt], by simp [regAt], fun j o' ho => ?_⟩
        cases j with
        | zero =>
          simp only [List.getElem?_cons_zero, Option.some.injEq] at ho
          subst ho
          exact ⟨⟨r, h, v⟩, rfl, by rw [heapAt_succ, q2]; exact h1, by rw [regAt_succ, q3]⟩
        | succ j =>
          obtain ⟨e, p1, p2, p3⟩ := q4 j o' (by simpa using ho)
          exact ⟨e, by simpa using p1, by rw [heapAt_succ]; exact p2, by rw [regAt_succ]; exact p3⟩
theorem get_put_dst {nt : Nat} {d : Option Nat} (hd : dstFine nt d = true) {r : Regs} {v : V} {t : Nat} (ht : t ≤ top) : T.get .bad (pa t) ((putC d).run r v) = if d = some t then v else T.get .bad (pa t) r := by
  cases d with
  | none => simp [putC]
  | some d =>
    simp only [dstFine, Bool.and_eq_true, Nat.blt_eq, Nat.ble_eq] at hd
    simp only [putC, T.get_put, Option.some.injEq]
    by_cases h : d = t
    · subst h; simp
    · rw [if_neg (fun e => h (pa_inj e)), if_neg h]
theorem dopC_fine {nt : Nat} {all : Array Oper} {o : Oper} {call : CallF} {r : Regs} {h h' : Heap} {v : V} (he : (dopC P nt all o).run call r h = .val v h') : dstFine nt o.dst = true ∧ smallT (readsOf all o) = true := by
  unfold dopC at he
  cases hc : (dstFine nt o.dst && smallT (readsOf all o)) with
  | false => rw [hc] at he; simp [OpC.none] at he
  | true => simpa using hc
theorem trimR_get {r : Regs} {rs : List Nat} (hs : smallT rs = true) {t : Nat} (ht : t ≤ top) : T.get .bad (pa t) (trimR r rs) = if t ∈ rs then T.get .bad (pa t) r else .bad := by
  induction rs with
  | nil => simp [trimR]
  | cons u rs ih =>
    simp only [smallT, List.all_cons, Bool.and_eq_true, Nat.ble_eq] at hs
    simp only [trimR, T.get_put, List.mem_cons]
    by_cases h : u = t
    · subst h; simp
    · rw [if_neg (fun e => h (pa_inj e)), ih hs.2]
      have h' : ¬ t = u := fun e => h e.symm
      simp [h']
theorem dop_sound {w0 : Fr} {E : Env} {h h' : Heap} {w : World} {call : CallF} (hN : NamesOk P) (hcall : CallOk P call) (hbody : CallBody P call) {all : Array Oper} {i : Nat} {o : Oper} (hi : all[i]? = some o) {nt : Nat} {r : Regs} {a : Act} {v : V}
    (he : (dopC P nt all o).run call r h = .val v h') (hsize : a.tmps.size = nt) (hdef : a.defers = []) (hreads : ∀ t ∈ readsOf all o, Rel E (T.get .bad (pa t) r) (a.tmps.getD t undef)) (s : Sim w0 E h w)
    {K : Act → World → Prop} {Q : Exit → Act → World → Prop} (hK : ∀ E' x w', E.le E' → Rel E' v x → Sim w0 E' h' w' → K (a.put o.dst x) w') : wpOp P all Q i K a w := by
  obtain ⟨hd, hs⟩ := dopC_fine he
  have k : RegRel E nt (trimR r (readsOf all o)) a := ⟨hsize, hdef, fun t ht => by
    rw [trimR_get hs ht]
    by_cases hm : t ∈ readsOf all o
    · rw [if_pos hm]; exact hreads t hm
    · rw [if_neg hm]; simp [Rel]⟩
  unfold dopC at he
  rw [show (dstFine nt o.dst && smallT (readsOf all o)) = true from by rw [hd, hs]; rfl] at he
  simp only [cond_true] at he
  have wanted : (cop P o).run call (trimR r (readsOf all o)) h = .val v h' → Region.wanted o (yielded all a.tmps) = true → wpOp P all Q i K a w := by
    intro h1 hw
    simp only [wpOp, hi, hw, if_true]
    left
    exact cop_sound hN hcall hbody h1 k s hK
  have unwanted : OR.val (.tuple []) h = OR.val v h' → Region.wanted o (yielded all a.tmps) = false → wpOp P all Q i K a w := by
    intro h1 hw
    simp only [OR.val.injEq] at h1
    obtain ⟨rfl, rfl⟩ := h1
    simp only [wpOp, hi, hw, Bool.false_eq_true, if_false]
    exact hK E undef w (Env.le.refl E) (by simp only [Rel]; exact ⟨#[], rfl, rfl⟩) s
  cases hg : o.guard with
  | none =>
    rw [hg] at he
    exact wanted he (by simp [Region.wanted, hg])
  | some jw =>
    obtain ⟨j, want⟩ := jw
    rw [hg] at he
    simp only at he
    cases hj : all[j]? with
    | none => rw [hj] at he; simp [OpC.none] at he
    | some g =>
      rw [hj] at he
      simp only at he
      cases hgd : g.dst with
      | none => rw [hgd] at he; simp [OpC.none] at he
      | some d =>
        rw [hgd] at he
        simp only at he
        cases hc : (Nat.blt d nt && Nat.ble d top) with
        | false => rw [hc] at he; simp [OpC.none] at he
        | true =>
          rw [hc] at he
          simp only [cond_true, dopRun, evTmp] at he
          simp only [Bool.and_eq_true, Nat.blt_eq, Nat.ble_eq] at hc
          obtain ⟨g1, g2⟩ := guard_sound k hj hgd hc.1 hc.2
          cases hv : T.get .bad (pa d) (trimR r (readsOf all o)) <;> rw [hv] at he <;> simp only at he <;> try (cases he; done)
          · rename_i b
            have hy := g1 b hv
            cases hb : (bif want then b else !b) with
            | true =>
              rw [hb] at he
              simp only [cond_true] at he
              refine wanted he ?_
              simp only [Region.wanted, hg, hy]
              cases want <;> cases b <;> simp_all
            | false =>
              rw [hb] at he
              simp only [cond_false] at he
              refine unwanted he ?_
              simp only [Region.wanted, hg, hy]
              cases want <;> cases b <;> simp_all
          · rename_i vs
            have hy := g2 vs hv
            refine unwanted he ?_
            simp only [Region.wanted, hg, hy]
            rfl
theorem dop_quiet {nt : Nat} {all : Array Oper} {o : Oper} {call : CallF} {r : Regs} {h h' : Heap} {v : V} (hq : isEff P o.op = false) (he : (dopC P nt all o).run call r h = .val v h') :
    h' = h ∧ (looks o.op = false → ∀ H, (dopC P nt all o).run call r H = .val v H) := by
  obtain ⟨hd, hs⟩ := dopC_fine he
  have e0 : (dstFine nt o.dst && smallT (readsOf all o)) = true := by rw [hd, hs]; rfl
  have key : dopC P nt all o = (match o.guard with
    | none => ⟨dopRun none (cop P o) (readsOf all o)⟩
    | some (j, want) => match all[j]? with
      | some g => match g.dst with
        | some d => bif Nat.blt d nt && Nat.ble d top then ⟨dopRun (some (evTmp (pa d), want)) (cop P o) (readsOf all o)⟩ else OpC.none
        | none => OpC.none
      | none => OpC.none) := by
    unfold dopC; rw [e0]; rfl
  rw [key] at he ⊢
  cases hg : o.guard with
  | none =>
    rw [hg] at he
    exact ⟨cop_quiet hq he, fun hl H => cop_pure hq hl he H⟩
  | some jw =>
    obtain ⟨j, want⟩ := jw
    rw [hg] at he
    simp only at he ⊢
    cases hj : all[j]? with
    | none => rw [hj] at he; simp [OpC.none] at he
    | some g =>
      rw [hj] at he
      simp only at he ⊢
      cases hgd : g.dst with
      | none => rw [hgd] at he; simp [OpC.none] at he
      | some d =>
        rw [hgd] at he
        simp only at he ⊢
        cases hc : (Nat.blt d nt && Nat.ble d top) with
        | false => rw [hc] at he; simp [OpC.none] at he
        | true =>
          rw [hc] at he
          simp only [cond_true, dopRun] at he ⊢
          cases hv : (evTmp (pa d)).run (trimR r (readsOf all o)) <;> rw [hv] at he <;> simp only at he ⊢ <;> try (cases he; done)
          · rename_i b
            cases hb : (bif want then b else !b) <;> rw [hb] at he <;> simp only [cond_true, cond_false] at he ⊢
            · simp only [OR.val.injEq] at he ⊢
              exact ⟨he.2.symm, fun _ H => ⟨he.1, trivial⟩⟩
            · exact ⟨cop_quiet hq he, fun hl H => cop_pure hq hl he H⟩
          · simp only [OR.val.injEq] at he ⊢
            exact ⟨he.2.symm, fun _ H => ⟨he.1, trivial⟩⟩
theorem askAgain_mem {op : OpC} {call : CallF} {es : List Ent} {hf : Heap} {r : Regs} {v : V} : ∀ {ss : List Nat}, askAgain op call es hf r v ss = true → ∀ s ∈ ss, ∃ h', op.run call r (heapAt es hf s) = .val v h'
  | [], _, s, h => by simp at h
  | s' :: ss, he, s, hm => by
    simp only [askAgain, Bool.and_eq_true] at he
    simp only [List.mem_cons] at hm
    rcases hm with rfl | hm
    · have h1 := he.1
      cases hr : op.run call r (heapAt es hf s) with
      | fail => rw [hr] at h1; cases h1
      | val v' h' =>
        rw [hr] at h1
        rw [eqV_eq h1]
        exact ⟨h', rfl⟩
    · exact askAgain_mem he.2 s hm
theorem asksC_spec {nt : Nat} {all : Array Oper} {masks poss starts : List Nat} {call : CallF} {es : List Ent} {hf : Heap} : ∀ {l : List Oper} {i : Nat}, (asksC P nt all masks poss starts i l).run call es hf = true →
    ∀ j o, l[j]? = some o → looks o.op = true → isEff P o.op = false → ∃ e, es[posOf poss (i + j)]? = some e ∧ ∀ s ∈ starts, mayStand P masks all.toList poss (i + j) ((masks[i + j]?).getD 0) s = true → ∃ h', (dopC P nt all o).run call e.r (heapAt es hf s) = .val e.v h'
  | [], _, _, j, o, ho, _, _ => by simp at ho
  | o' :: os, i, he, j, o, ho, hl, hq => by
    simp only [asksC] at he
    cases j with
    | zero =>
      simp only [List.getElem?_cons_zero, Option.some.injEq] at ho
      subst ho
      rw [hl, hq] at he
      simp only [Bool.not_false, Bool.and_true, cond_true, Bool.and_eq_true, askOne] at he
      have h1 := he.1
      cases hes : es[posOf poss i]? with
      | none => rw [hes] at h1; cases h1
      | some e =>
        rw [hes] at h1
        refine ⟨e, rfl, fun s hs hm => ?_⟩
        exact askAgain_mem h1 s (List.mem_filter.2 ⟨hs, by simpa using hm⟩)
    | succ j =>
      have rest : (asksC P nt all masks poss starts (i + 1) os).run call es hf = true := by
        cases hc : (looks o'.op && !isEff P o'.op) with
        | false => rw [hc] at he; exact he
        | true => rw [hc] at he; simp only [cond_true, Bool.and_eq_true] at he; exact he.2
      have := asksC_spec rest j o (by simpa using ho) hl hq
      rw [show i + (j + 1) = i + 1 + j from by omega]
      exact this
theorem levelStarts_mem {poss : List Nat} : ∀ {l : List Oper} {i j : Nat} {o : Oper}, l[j]? = some o → isChain P o = true → posOf poss (i + j) ∈ levelStarts P poss i l
  | [], _, j, o, h, _ => by simp at h
  | o' :: os, i, j, o, h, he => by
    simp only [levelStarts]
    cases j with
    | zero =>
      simp only [List.getElem?_cons_zero, Option.some.injEq] at h
      subst h
      rw [he]
      simp
    | succ j =>
      have := levelStarts_mem (poss := poss) (i := i + 1) (by simpa using h) he
      rw [show i + (j + 1) = i + 1 + j from by omega]
      cases isChain P o' with
      | true => simp [this]
      | false => exact this
theorem levelStarts_end {poss : List Nat} : ∀ {l : List Oper} {i : Nat}, i + l.length ∈ levelStarts P poss i l
  | [], _ => by simp [levelStarts]
  | o :: os, i => by
    have := levelStarts_end (poss := poss) (l := os) (i := i + 1)
    simp only [levelStarts, List.length_cons]
    rw [show i + (os.length + 1) = i + 1 + os.length from by omega]
    cases isChain P o with
    | true => simp [this]
    | false => exact this
theorem levelStarts_spec {poss : List Nat} : ∀ {l : List Oper} {i s : Nat}, s ∈ levelStarts P poss i l → s = i + l.length ∨ ∃ j o, l[j]? = some o ∧ isChain P o = true ∧ s = posOf poss (i + j)
  | [], i, s, h => by simp only [levelStarts, List.mem_singleton] at h; exact .inl (by simpa using h)
  | o :: os, i, s, h => by
    simp only [levelStarts] at h
    have rest : s ∈ levelStarts P poss (i + 1) os → s = i + (o :: os).length ∨ ∃ j o', (o :: os)[j]? = some o' ∧ isChain P o' = true ∧ s = posOf poss (i + j) := by
      intro h
      rcases levelStarts_spec h with h | ⟨j, o', h1, h2, h3⟩
      · exact .inl (by simp only [List.length_cons]; omega)
      · exact .inr ⟨j + 1, o', by simpa using h1, h2, by rw [h3]; congr 1; omega⟩
    cases hc : isChain P o with
    | true =>
      rw [hc] at h
      simp only [cond_true, List.mem_cons] at h
      rcases h with h | h
      · exact .inr ⟨0, o, rfl, hc, h⟩
      · exact rest h
    | false => rw [hc] at h; exact rest h
theorem cop_shape {o : Oper} {call : CallF} {r : Regs} {h h' : Heap} {v : V} (ha : isAlloc o = true) (he : (cop P o).run call r h = .val v h') : ∃ k, h' = h.new k ∧ True := by
  have cells : ∀ {vs : List V} {h1 : Heap}, newCells h vs = some h1 → ∃ k, h1 = h.new k ∧ True := by
    intro vs h1 he
    unfold newCells at he
    obtain ⟨hc, he⟩ := cond_some he
    cases he
    exact ⟨_, rfl, trivial⟩
  obtain ⟨dst, op, type, pos, after, guard⟩ := o
  cases op <;> simp only [isAlloc] at ha <;> try (cases ha; done)
  all_goals simp only [cop] at he
  case alloc t =>
    cases ht : tiOf P t with
    | none => rw [ht] at he; simp [OpC.none] at he
    | some ti =>
      rw [ht] at he
      simp only at he
      cases hz : ti.zero with
      | none => rw [hz] at he; simp [OpC.none] at he
      | some z =>
        rw [hz] at he
        simp only at he
        cases hn : newCells h z.cells with
        | none => rw [hn] at he; cases he
        | some h1 =>
          rw [hn] at he
          simp only [orHeap, OR.val.injEq] at he; obtain ⟨_, rfl⟩ := he
          exact cells hn
  case box t x =>
    obtain ⟨hg, he⟩ := cond_val he
    cases hn : newCells h ((evC x).run r).cells with
    | none => rw [hn] at he; cases he
    | some h1 =>
      rw [hn] at he
      simp only [orHeap, OR.val.injEq] at he; obtain ⟨_, rfl⟩ := he
      exact cells hn
  case buildSlice t n ps =>
    unfold buildSliceC at he
    cases ht : tiOf P t with
    | none => rw [ht] at he; cases he
    | some ti =>
      rw [ht] at he
      simp only at he
      cases hund : ti.und <;> rw [hund] at he <;> simp only at he <;> try (cases he; done)
      rename_i e
      cases hte : tiOf P e with
      | none => rw [hte] at he; cases he
      | some ei =>
        rw [hte] at he
        simp only at he
        cases hz : ei.zero with
        | none => rw [hz] at he; cases he
        | some z =>
          rw [hz] at he
          simp only at he
          cases hc : (Nat.ble (n * ei.size) 1000000 && Nat.beq z.cells.length ei.size) with
          | false => rw [hc] at he; cases he
          | true =>
            rw [hc] at he
            simp only [cond_true] at he
            cases hf : fillV (fun i => some (i * ei.size, ei.size)) (repeatV z.cells n) ((partsC ps.toList).run r) with
            | none => rw [hf] at he; cases he
            | some cs =>
              rw [hf] at he
              simp only at he
              cases hn : newCells h cs with
              | none => rw [hn] at he; cases he
              | some h1 =>
                rw [hn] at he
                simp only [OR.val.injEq] at he
                obtain ⟨_, rfl⟩ := he
                exact cells hn
  case makeMap t x =>
    cases x with
    | some _ => cases ha
    | none =>
      simp only [optC, makeMapC] at he
      cases ht : tiOf P t with
      | none => rw [ht] at he; cases he
      | some ti =>
        rw [ht] at he
        simp only at he
        cases hb : Nat.beq (nilKindD ti.und) 3 with
        | false => rw [hb] at he; cases he
        | true =>
          rw [hb] at he
          simp only [cond_true, makeMapV, newMap] at he
          simp only [OR.val.injEq] at he
          exact ⟨_, he.2.symm, trivial⟩
theorem isAlloc_eff {o : Oper} (ha : isAlloc o = true) : isEff P o.op = true := by
  obtain ⟨dst, op, type, pos, after, guard⟩ := o
  cases op <;> simp only [isAlloc] at ha <;> first | (cases ha; done) | rfl
theorem dop_split {nt : Nat} {all : Array Oper} {o : Oper} {call : CallF} {r : Regs} {h h' : Heap} {v : V} (he : (dopC P nt all o).run call r h = .val v h') :
    ((cop P o).run call (trimR r (readsOf all o)) h = .val v h' ∧ ∀ E a, RegRel E nt (trimR r (readsOf all o)) a → Region.wanted o (yielded all a.tmps) = true) ∨
    (h' = h ∧ ∀ H, (dopC P nt all o).run call r H = .val v H) := by
  obtain ⟨hd, hs⟩ := dopC_fine he
  have e0 : (dstFine nt o.dst && smallT (readsOf all o)) = true := by rw [hd, hs]; rfl
  have key : dopC P nt all o = (match o.guard with
    | none => ⟨dopRun none (cop P o) (readsOf all o)⟩
    | some (j, want) => match all[j]? with
      | some g => match g.dst with
        | some d => bif Nat.blt d nt && Nat.ble d top then ⟨dopRun (some (evTmp (pa d), want)) (cop P o) (readsOf all o)⟩ else OpC.none
        | none => OpC.none
      | none => OpC.none) := by
    unfold dopC; rw [e0]; rfl
  rw [key] at he ⊢
  cases hg : o.guard with
  | none =>
    rw [hg] at he
    exact .inl ⟨he, fun E a _ => by simp [Region.wanted, hg]⟩
  | some jw =>
    obtain ⟨j, want⟩ := jw
    rw [hg] at he
    simp only at he ⊢
    cases hj : all[j]? with
    | none => rw [hj] at he; simp [OpC.none] at he
    | some g =>
      rw [hj] at he
      simp only at he ⊢
      cases hgd : g.dst with
      | none => rw [hgd] at he; simp [OpC.none] at he
      | some d =>
        rw [hgd] at he
        simp only at he ⊢
        cases hc : (Nat.blt d nt && Nat.ble d top) with
        | false => rw [hc] at he; simp [OpC.none] at he
        | true =>
          rw [hc] at he
          simp only [cond_true, dopRun] at he ⊢
          have hc' := hc
          simp only [Bool.and_eq_true, Nat.blt_eq, Nat.ble_eq] at hc'
          cases hv : (evTmp (pa d)).run (trimR r (readsOf all o)) <;> rw [hv] at he <;> simp only at he ⊢ <;> try (cases he; done)
          · rename_i b
            cases hb : (bif want then b else !b) <;> rw [hb] at he <;> simp only [cond_true, cond_false] at he ⊢
            · simp only [OR.val.injEq] at he ⊢
              exact .inr ⟨he.2.symm, fun H => ⟨he.1, trivial⟩⟩
            · refine .inl ⟨he, fun E a k => ?_⟩
              obtain ⟨g1, _⟩ := guard_sound k hj hgd hc'.1 hc'.2
              have hy := g1 b hv
              simp only [Region.wanted, hg, hy]
              cases want <;> cases b <;> simp_all
          · simp only [OR.val.injEq] at he ⊢
            exact .inr ⟨he.2.symm, fun H => ⟨he.1, trivial⟩⟩
theorem dop_shape {nt : Nat} {all : Array Oper} {o : Oper} {call : CallF} {r : Regs} {h h' : Heap} {v : V} (ha : isAlloc o = true) (he : (dopC P nt all o).run call r h = .val v h') :
    (∃ k, h' = h.new k ∧ True) ∨ (h' = h ∧ ∀ H, (dopC P nt all o).run call r H = .val v H) := by
  rcases dop_split he with ⟨h1, _⟩ | h1
  · exact .inl (cop_shape ha h1)
  · exact .inr h1
theorem dop_link {F : Fr} {E : Env} {h h' H : Heap} {w : World} {call : CallF} {all : Array Oper} {i : Nat} {o : Oper} (hi : all[i]? = some o) (ha : isAlloc o = true) {nt : Nat} {r : Regs} {a : Act} {v : V}
    (he : (dopC P nt all o).run call r h = .val v h') (hsize : a.tmps.size = nt) (hdef : a.defers = []) (hreads : ∀ t ∈ readsOf all o, Rel E (T.get .bad (pa t) r) (a.tmps.getD t undef)) (s : Sim F E H w)
    (hmade : h'.next ≠ h.next) (hp : F.pend (pa h.next) = some (h'.get (pa h.next)))
    {K : Act → World → Prop} {Q : Exit → Act → World → Prop} (hK : ∀ E' x w', E.le E' → Rel E' v x → Sim (F.free (pa h.next)) E' H w' → K (a.put o.dst x) w') : wpOp P all Q i K a w := by
  obtain ⟨hd, hs⟩ := dopC_fine he
  have k : RegRel E nt (trimR r (readsOf all o)) a := ⟨hsize, hdef, fun t ht => by
    rw [trimR_get hs ht]
    by_cases hm : t ∈ readsOf all o
    · rw [if_pos hm]; exact hreads t hm
    · rw [if_neg hm]; simp [Rel]⟩
  obtain ⟨he', hw⟩ : (cop P o).run call (trimR r (readsOf all o)) h = .val v h' ∧ Region.wanted o (yielded all a.tmps) = true := by
    rcases dop_split he with ⟨h1, h2⟩ | ⟨h1, _⟩
    · exact ⟨h1, h2 E a k⟩
    · exact absurd (by rw [h1]) hmade
  obtain ⟨m, hx, kk, q1, q2, q3⟩ := cop_makes ha he' k
  simp only [wpOp, hi, hw, if_true]
  left
  obtain ⟨X, ob, p1, p2⟩ := q3 w
  rw [q1, Heap.get_new, if_pos rfl] at hp
  have hput : E.put (pa h.next) ⟨w.heap.size, 0, 0⟩ (pa h.next) = some ⟨w.heap.size, 0, 0⟩ := by unfold Env.put; rw [if_pos rfl]
  have hle : E.le (E.put (pa h.next) ⟨w.heap.size, 0, 0⟩) := Env.le_put (s.pen _ _ hp).2.1
  obtain ⟨r1, r2⟩ := p2 _ hle hput
  have hsz : F.w.heap.size ≤ w.heap.size := s.frame.size
  obtain ⟨_, hl2⟩ := s.link hp (o := ob) (r2 _ hsz)
  unfold Oper.wp
  rw [hx, Sem.run_bind, p1]
  exact hK _ X _ hle r1 hl2
end
end Go.Proofs.YtjbiefneffiogaaGreat.Am

namespace Go.Proofs.YtjbiefneffiogaaGreat.Am
variable [Lay]
open Go Go.RowKit
theorem countP_lt {α : Type} (p q : α → Bool) : ∀ (l : List α), (∀ x ∈ l, q x = true → p x = true) → (∃ x ∈ l, p x = true ∧ q x = false) → l.countP q < l.countP p
  | [], _, h => by obtain ⟨x, hx, _⟩ := h; simp at hx
  | a :: l, h1, h2 => by
    have hle : l.countP q ≤ l.countP p := List.countP_mono_left fun x hx => h1 x (by simp [hx])
    obtain ⟨x, hx, hp, hq⟩ := h2
    simp only [List.mem_cons] at hx
    rcases hx with rfl | hx
    · rw [List.countP_cons, List.countP_cons, hp, hq]
      simp
      omega
    · have ih := countP_lt p q l (fun y hy => h1 y (by simp [hy])) ⟨x, hx, hp, hq⟩
      have ha := h1 a (by simp)
      rw [List.countP_cons, List.countP_cons]
      cases hqa : q a with
      | true => rw [ha hqa]; simp; omega
      | false => simp; omega
theorem binds_eq (e : Edge) : Region.binds .any e = bindsB e := by
  unfold Region.binds bindsB
  cases e.ground <;> rfl
section
variable {P : Program}
theorem permAt_get {order : List Nat} : ∀ {ps : List Nat} {k j p : Nat}, permAt order k ps = true → ps[j]? = some p → order[p]? = some (k + j)
  | [], _, j, p, _, h => by simp at h
  | q :: ps, k, j, p, hp, h => by
    simp only [permAt, Bool.and_eq_true] at hp
    cases j with
    | zero =>
      simp only [List.getElem?_cons_zero, Option.some.injEq] at h
      subst h
      have h1 := hp.1
      cases hq : order[q]? with
      | none => rw [hq] at h1; cases h1
      | some i => rw [hq] at h1; rw [Nat.beq_eq] at h1; rw [h1]; rfl
    | succ j =>
      have := permAt_get hp.2 (show ps[j]? = some p by simpa using h)
      rw [this]
      congr 1
      omega
theorem opsAt_get {ops : Array Oper} : ∀ {order : List Nat} {p i : Nat} {o : Oper}, order[p]? = some i → ops[i]? = some o → (opsAt ops order)[p]? = some o
  | [], p, i, o, h, _ => by simp at h
  | x :: xs, p, i, o, h, ho => by
    cases p with
    | zero =>
      simp only [List.getElem?_cons_zero, Option.some.injEq] at h
      subst h
      simp [opsAt, ho]
    | succ p => simpa [opsAt] using opsAt_get (show xs[p]? = some i by simpa using h) ho
theorem opsAt_length {ops : Array Oper} : ∀ {order : List Nat}, (opsAt ops order).length = order.length
  | [] => rfl
  | x :: xs => by simp [opsAt, opsAt_length (order := xs)]
structure Cert (P : Program) (nt : Nat) (ops : Array Oper) (calls : Nat → CallF) (es : List Ent) (r0 : Regs) (h0 : Heap) (rf : Regs) (hf : Heap) (starts : List Nat) (order poss : List Nat) : Prop where
  len : es.length = ops.size
  posLt : ∀ k, k < ops.size → posOf poss k < ops.size ∧ order[posOf poss k]? = some k
  ordAt : ∀ p, p < ops.size → ∃ i, i < ops.size ∧ posOf poss i = p
  h0 : heapAt es hf 0 = h0
  r0 : regAt es rf 0 = r0
  step : ∀ i o, ops[i]? = some o → ∃ e, es[posOf poss i]? = some e ∧ (dopC P nt ops o).run (calls i) e.r e.h = .val e.v (heapAt es hf (posOf poss i + 1)) ∧ regAt es rf (posOf poss i + 1) = (putC o.dst).run e.r e.v
  fine : drawFine P ops poss = true
  ends : ops.size ∈ starts
  mem : ∀ j o, ops[j]? = some o → isChain P o = true → posOf poss j ∈ starts
  sts : ∀ s ∈ starts, s = ops.size ∨ ∃ k o, ops[k]? = some o ∧ isChain P o = true ∧ s = posOf poss k
  ask : ∀ j o, ops[j]? = some o → looks o.op = true → isEff P o.op = false → ∃ e, es[posOf poss j]? = some e ∧ ∀ s ∈ starts,
    mayStand P (masksFrom [] ops.toList) ops.toList poss j (((masksFrom [] ops.toList)[j]?).getD 0) s = true → ∃ c h', (CallOk P c ∧ CallBody P c) ∧ (dopC P nt ops o).run c e.r (heapAt es hf s) = .val e.v h'
variable {nt : Nat} {ops : Array Oper} {call : CallF} {calls : Nat → CallF} {es : List Ent} {r0 : Regs} {h0 : Heap} {rf : Regs} {hf : Heap} {starts : List Nat} {order poss : List Nat}
theorem Cert.posInj (C : Cert P nt ops calls es r0 h0 rf hf starts order poss) {k k' : Nat} (h1 : k < ops.size) (h2 : k' < ops.size) (he : posOf poss k = posOf poss k') : k = k' := by
  have a := (C.posLt k h1).2
  have b := (C.posLt k' h2).2
  rw [he, b] at a
  cases a
  rfl
theorem Cert.fineAt (C : Cert P nt ops calls es r0 h0 rf hf starts order poss) {i : Nat} {o : Oper} (hi : ops[i]? = some o) : ∃ mi, (masksFrom [] ops.toList)[i]? = some mi ∧ onFine i o = true ∧
    ∀ k ok, ops[k]? = some ok → ∃ mk, (masksFrom [] ops.toList)[k]? = some mk ∧ pairFine i mi (readsOf ops o) o.dst k mk ok (Nat.blt (posOf poss k) (posOf poss i)) = true ∧ (isEff P o.op = true → isChain P ok = true → posOf poss k < posOf poss i → bitB mi k = true) := by
  have hf := C.fine
  unfold drawFine at hf
  obtain ⟨mi, h1, h2⟩ := zipAll_get hf i o (by simpa using hi)
  simp only [Nat.zero_add, Bool.and_eq_true] at h2
  refine ⟨mi, h1, h2.1, fun k ok hk => ?_⟩
  obtain ⟨mk, k1, k2⟩ := zipAll_get h2.2 k ok (by simpa using hk)
  simp only [Nat.zero_add, Bool.and_eq_true] at k2
  refine ⟨mk, k1, k2.1, fun e1 e2 hlt => ?_⟩
  have k3 := k2.2
  rw [e1, e2, Bool.true_and, show Nat.blt (posOf poss k) (posOf poss i) = true from by rw [Nat.blt_eq]; exact hlt] at k3
  exact k3
theorem Cert.regs (C : Cert P nt ops calls es r0 h0 rf hf starts order poss) : ∀ p, p ≤ ops.size → ∀ t, t ≤ top →
    (∃ k o e, posOf poss k < p ∧ ops[k]? = some o ∧ o.dst = some t ∧ es[posOf poss k]? = some e ∧ T.get .bad (pa t) (regAt es rf p) = e.v) ∨
    ((∀ k o, posOf poss k < p → ops[k]? = some o → o.dst ≠ some t) ∧ T.get .bad (pa t) (regAt es rf p) = T.get .bad (pa t) r0)
  | 0, _, t, ht => .inr ⟨fun k o h => by omega, by rw [C.r0]⟩
  | p + 1, hi, t, ht => by
    obtain ⟨i, hlt, hpi⟩ := C.ordAt p (by omega)
    have hio : ops[i]? = some ops[i] := Array.getElem?_eq_getElem hlt
    obtain ⟨e, h1, h2, h3⟩ := C.step i ops[i] hio
    rw [hpi] at h1 h2 h3
    have hreg : regAt es rf p = e.r := by simp [regAt, h1]
    have hput := get_put_dst (r := e.r) (v := e.v) (dopC_fine h2).1 ht
    rw [h3, hput]
    by_cases hd : ops[i].dst = some t
    · rw [if_pos hd]
      exact .inl ⟨i, _, e, by omega, hio, hd, by rw [hpi]; exact h1, rfl⟩
    · rw [if_neg hd, ← hreg]
      rcases Cert.regs C p (by omega) t ht with ⟨k, o, e', q1, q2, q3, q4, q5⟩ | ⟨q1, q2⟩
      · exact .inl ⟨k, o, e', by omega, q2, q3, q4, q5⟩
      · refine .inr ⟨fun k o hk ho => ?_, q2⟩
        by_cases hki : k = i
        · subst hki; rw [hio] at ho; cases ho; exact hd
        · refine q1 k o ?_ ho
          have hkl := (Array.getElem?_eq_some_iff.1 ho).1
          have : posOf poss k ≠ p := fun e => hki (C.posInj hkl hlt (by rw [e, hpi]))
          omega
def nameAt (es : List Ent) (hf : Heap) (poss : List Nat) (k : Nat) : Pa := pa (heapAt es hf (posOf poss k)).next
noncomputable def blkAt (es : List Ent) (hf : Heap) (poss : List Nat) (k : Nat) : Blk := (heapAt es hf (posOf poss k + 1)).get (nameAt es hf poss k)
def Made (es : List Ent) (hf : Heap) (poss : List Nat) (k : Nat) : Prop := (heapAt es hf (posOf poss k + 1)).next ≠ (heapAt es hf (posOf poss k)).next
def Held (ops : Array Oper) (es : List Ent) (hf : Heap) (poss : List Nat) (listed : Array Bool) (s k : Nat) : Prop :=
  ∃ o, ops[k]? = some o ∧ (isAlloc o = true ∧ Made es hf poss k) ∧ ¬ listed.getD k false = true ∧ posOf poss k < s
structure Holds (w0 F : Fr) (es : List Ent) (hf : Heap) (poss : List Nat) (D : Nat → Prop) : Prop where
  w : F.w = w0.w
  old : ∀ b, (∀ k, D k → nameAt es hf poss k ≠ b) → F.pend b = w0.pend b
  new : ∀ k, D k → F.pend (nameAt es hf poss k) = some (blkAt es hf poss k) ∧ w0.pend (nameAt es hf poss k) = none
  inj : ∀ k k', D k → D k' → nameAt es hf poss k = nameAt es hf poss k' → k = k'
theorem Holds.congr {w0 F : Fr} {D D' : Nat → Prop} (H : Holds w0 F es hf poss D) (h : ∀ k, D' k ↔ D k) : Holds w0 F es hf poss D' :=
  ⟨H.w, fun b hb => H.old b fun k hk => hb k ((h k).2 hk), fun k hk => H.new k ((h k).1 hk), fun k k' hk hk' => H.inj k k' ((h k).1 hk) ((h k').1 hk')⟩
theorem Holds.none {w0 F : Fr} {D : Nat → Prop} (H : Holds w0 F es hf poss D) (h : ∀ k, ¬ D k) : F = w0 := by
  have : F.pend = w0.pend := funext fun b => H.old b fun k hk => absurd hk (h k)
  cases F; cases w0
  have hw := H.w
  simp only at this hw
  rw [this, hw]
theorem Cert.advance (C : Cert P nt ops calls es r0 h0 rf hf starts order poss) {w0 : Fr} {listed : Array Bool} {E : Env} {w : World} : ∀ (d q : Nat), q + d = ops.size → (∀ k o, ops[k]? = some o → isAlloc o = true → q ≤ posOf poss k → ¬ listed.getD k false = true) →
    ∀ F, Holds w0 F es hf poss (Held ops es hf poss listed q) → Sim F E (heapAt es hf q) w →
    ∃ s F', s ∈ starts ∧ q ≤ s ∧ s ≤ ops.size ∧ (∀ k o, ops[k]? = some o → isChain P o = true → q ≤ posOf poss k → s ≤ posOf poss k) ∧ Holds w0 F' es hf poss (Held ops es hf poss listed s) ∧ Sim F' E (heapAt es hf s) w
  | 0, q, hq, _, F, H, S => by
    have : q = ops.size := by omega
    subst this
    exact ⟨ops.size, F, C.ends, Nat.le_refl _, Nat.le_refl _, fun k o _ _ h => h, H, S⟩
  | d + 1, q, hq, hnl, F, H, S => by
    obtain ⟨i, hlt, hpi⟩ := C.ordAt q (by omega)
    have hio : ops[i]? = some ops[i] := Array.getElem?_eq_getElem hlt
    cases hch : isChain P ops[i] with
    | true => exact ⟨q, F, by rw [← hpi]; exact C.mem i _ hio hch, Nat.le_refl _, by omega, fun k o _ _ h => h, H, S⟩
    | false =>
      obtain ⟨e, h1, h2, h3⟩ := C.step i ops[i] hio
      rw [hpi] at h1 h2
      have hhq : heapAt es hf q = e.h := by simp [heapAt, h1]
      have only : ∀ k o, ops[k]? = some o → posOf poss k = q → k = i := fun k o hk hp => C.posInj (Array.getElem?_eq_some_iff.1 hk).1 hlt (by rw [hp, hpi])
      have fin : ∀ F', Holds w0 F' es hf poss (Held ops es hf poss listed (q + 1)) → Sim F' E (heapAt es hf (q + 1)) w →
          ∃ s F', s ∈ starts ∧ q ≤ s ∧ s ≤ ops.size ∧ (∀ k o, ops[k]? = some o → isChain P o = true → q ≤ posOf poss k → s ≤ posOf poss k) ∧ Holds w0 F' es hf poss (Held ops es hf poss listed s) ∧ Sim F' E (heapAt es hf s) w := by
        intro F' H' S'
        obtain ⟨s, F2, g1, g2, g3, g4, g5, g6⟩ := Cert.advance C d (q + 1) (by omega) (fun k o h1 h2 h3 => hnl k o h1 h2 (by omega)) F' H' S'
        refine ⟨s, F2, g1, by omega, g3, fun k o hk hc hp => g4 k o hk hc ?_, g5, g6⟩
        by_cases hpk : posOf poss k = q
        · have := only k o hk hpk
          subst this
          rw [hio] at hk; cases hk
          rw [hch] at hc; cases hc
        · omega
      have pass : heapAt es hf (q + 1) = e.h → (isAlloc ops[i] = true → ¬ Made es hf poss i) → ∃ s F', s ∈ starts ∧ q ≤ s ∧ s ≤ ops.size ∧ (∀ k o, ops[k]? = some o → isChain P o = true → q ≤ posOf poss k → s ≤ posOf poss k) ∧ Holds w0 F' es hf poss (Held ops es hf poss listed s) ∧ Sim F' E (heapAt es hf s) w := by
        intro hsame hnm
        rw [← hhq] at hsame
        refine fin F (H.congr fun k => ⟨?_, ?_⟩) (by rw [hsame]; exact S)
        · rintro ⟨o, q1, q2, q3, q4⟩
          refine ⟨o, q1, q2, q3, ?_⟩
          have : posOf poss k ≠ q := fun e => by
            have := only k o q1 e
            subst this
            rw [hio] at q1; cases q1
            exact hnm q2.1 q2.2
          omega
        · rintro ⟨o, q1, q2, q3, q4⟩
          exact ⟨o, q1, q2, q3, by omega⟩
      cases ha : isAlloc ops[i] with
      | true =>
       rcases dop_shape ha h2 with ⟨kk, k1, k2⟩ | ⟨k1, _⟩
       ·
        have hs := S.hold kk
        have hn : nameAt es hf poss i = pa (heapAt es hf q).next := by unfold nameAt; rw [hpi]
        have hb : blkAt es hf poss i = kk := by
          unfold blkAt
          rw [hn, hpi, k1, hhq, Heap.get_new, if_pos rfl]
        rw [hhq, ← k1] at hs
        have hmd : Made es hf poss i := by
          unfold Made
          rw [hpi, k1, hhq]
          exact Nat.succ_ne_self _
        have hni : ¬ listed.getD i false = true := hnl i _ hio ha (by omega)
        have cases' : ∀ k, Held ops es hf poss listed (q + 1) k → k = i ∨ Held ops es hf poss listed q k := by
          rintro k ⟨o, q1, q2, q3, q4⟩
          by_cases hpk : posOf poss k = q
          · exact .inl (only k o q1 hpk)
          · exact .inr ⟨o, q1, q2, q3, by omega⟩
        have fresh : ∀ b kb, F.pend b = some kb → b ≠ nameAt es hf poss i := by
          intro b kb hbk heq
          obtain ⟨_, _, j, j1, j2⟩ := S.pen b kb hbk
          rw [heq, hn] at j2
          rw [hhq] at j1 j2
          have := pa_inj j2
          omega
        have inF : ∀ b, b ≠ nameAt es hf poss i → (F.hold (pa e.h.next) kk).pend b = F.pend b := by
          intro b hbne
          rw [hn, hhq] at hbne
          simp only [Fr.hold, if_neg hbne]
        have atF : (F.hold (pa e.h.next) kk).pend (nameAt es hf poss i) = some kk := by
          rw [hn, hhq]
          simp only [Fr.hold, if_true]
        have ne : ∀ k, Held ops es hf poss listed q k → nameAt es hf poss k ≠ nameAt es hf poss i := fun k hk => fresh _ _ (H.new k hk).1
        refine fin (F.hold (pa e.h.next) kk) ⟨H.w, fun b hbk => ?_, fun k hk => ?_, fun k k' hk hk' he => ?_⟩ hs
        · have hbi : b ≠ nameAt es hf poss i := fun e => hbk i ⟨_, hio, ⟨ha, hmd⟩, hni, by omega⟩ e.symm
          rw [inF b hbi]
          exact H.old b fun k hk => hbk k (by obtain ⟨o, q1, q2, q3, q4⟩ := hk; exact ⟨o, q1, q2, q3, by omega⟩)
        · rcases cases' k hk with rfl | hk
          · refine ⟨by rw [atF, hb], ?_⟩
            cases hp : w0.pend (nameAt es hf poss k) with
            | none => rfl
            | some kb =>
              exfalso
              have := H.old (nameAt es hf poss k) fun k' hk' => ne k' hk'
              rw [hp] at this
              exact fresh _ _ this rfl
          · rw [inF _ (ne k hk)]
            exact H.new k hk
        · rcases cases' k hk with rfl | hk <;> rcases cases' k' hk' with rfl | hk'
          · rfl
          · exact absurd he.symm (ne k' hk')
          · exact absurd he (ne k hk)
          · exact H.inj k k' hk hk' he
       · refine pass k1 fun _ hm => hm ?_
         rw [hpi, k1, hhq]
      | false =>
        have hne : isEff P ops[i].op = false := by
          unfold isChain at hch
          rw [ha] at hch
          simpa using hch
        exact pass (dop_quiet hne h2).1 fun h => by rw [ha] at h; cases h
structure DInv (P : Program) (w0 : Fr) (nt : Nat) (ops : Array Oper) (es : List Ent) (r0 : Regs) (hf : Heap) (starts poss : List Nat) (E0 : Env) (listed : Array Bool) (a : Act) (w : World) : Prop where
  lsize : listed.size = ops.size
  size : a.tmps.size = nt
  defers : a.defers = []
  down : DownP ops fun k => listed.getD k false = true
  main : ∃ E s F, E0.le E ∧ s ∈ starts ∧ s ≤ ops.size ∧ (∀ k o, ops[k]? = some o → isChain P o = true → (listed.getD k false = true ↔ posOf poss k < s)) ∧
    (∀ k o, ops[k]? = some o → isAlloc o = true → listed.getD k false = true → posOf poss k < s) ∧ Holds w0 F es hf poss (Held ops es hf poss listed s) ∧ Sim F E (heapAt es hf s) w ∧
    ∀ t, t ≤ top → (∃ k o e, listed.getD k false = true ∧ ops[k]? = some o ∧ o.dst = some t ∧ es[posOf poss k]? = some e ∧ Rel E e.v (a.tmps.getD t undef)) ∨
      ((∀ k o, listed.getD k false = true → ops[k]? = some o → o.dst ≠ some t) ∧ Rel E (T.get .bad (pa t) r0) (a.tmps.getD t undef))
theorem getD_iff {l : Array Bool} {i : Nat} : l.getD i false = true ↔ l[i]? = some true := by
  rw [Array.getD_eq_getD_getElem?]
  cases l[i]? with
  | none => simp
  | some b => cases b <;> simp
theorem getD_set {l : Array Bool} {i k : Nat} (hi : i < l.size) : (l.setIfInBounds i true).getD k false = true ↔ (k = i ∨ l.getD k false = true) := by
  rw [getD_iff, getD_iff, Array.getElem?_setIfInBounds]
  by_cases h : i = k
  · subst h; simp [hi]
  · have : ¬ k = i := fun e => h e.symm
    simp [h, this]
theorem draw_step {w0 : Fr} (hN : NamesOk P) (hcall : ∀ i, CallOk P (calls i)) (hbody : ∀ i, CallBody P (calls i)) (C : Cert P nt ops calls es r0 h0 rf hf starts order poss) {E0 : Env} {listed : Array Bool} {a : Act} {w : World} (I : DInv P w0 nt ops es r0 hf starts poss E0 listed a w)
    {i : Nat} (hi : i ∈ Region.ready .any ops listed) {Q : Exit → Act → World → Prop} {K : Act → World → Prop} (hK : ∀ a' w', DInv P w0 nt ops es r0 hf starts poss E0 (listed.setIfInBounds i true) a' w' → K a' w') : wpOp P ops Q i K a w := by
  rw [mem_ready] at hi
  obtain ⟨E, s, F, hE, hs, hsn, hlev, hall, hheld, hsim, hregs⟩ := I.main
  obtain ⟨hnl, o, hio, hedges⟩ := hi
  have hin : i < ops.size := (Array.getElem?_eq_some_iff.1 hio).1
  have hnot : ¬ listed.getD i false = true := by
    rw [getD_iff]
    intro h
    rw [Array.getD_eq_getD_getElem?, h] at hnl
    simp at hnl
  have hmask := masksFrom_ok I.down ops.toList [] (fun j => by simp) (fun k m j hk => by simp at hk)
  have hD' : DownP ops fun k => listed.getD k false = true ∨ k = i := by
    intro k ok e hk hok he hb
    rcases hk with hk | rfl
    · exact .inl (I.down k ok e hk hok he hb)
    · rw [hio] at hok; cases hok
      exact .inl (hedges e (Array.mem_toList_iff.1 he) (by rw [binds_eq]; exact hb))
  have hmask' := masksFrom_ok hD' ops.toList [] (fun j => by simp) (fun k m j hk => by simp at hk)
  obtain ⟨mi, hmi, hon, hpair⟩ := C.fineAt hio
  have hbit : ∀ k, k ≠ i → bitB mi k = true → listed.getD k false = true := by
    intro k hk hb
    rcases hmask' i mi k hmi hb (.inr rfl) with h | h
    · exact h
    · exact absurd h hk
  obtain ⟨e, hes, hrun, hregn⟩ := C.step i o hio
  have hpl := (C.posLt i hin).1
  have hfine := dopC_fine hrun
  have hei : regAt es rf (posOf poss i) = e.r := by simp [regAt, hes]
  have hhi : heapAt es hf (posOf poss i) = e.h := by simp [heapAt, hes]
  have uniq : ∀ (k k' : Nat) (ok ok' : Oper) (t : Nat), ops[k]? = some ok → ops[k']? = some ok' → ok.dst = some t → ok'.dst = some t → k = k' := by
    intro k k' ok ok' t h1 h2 h3 h4
    obtain ⟨mk, _, _, hp⟩ := C.fineAt h1
    obtain ⟨mk', _, hp2, _⟩ := hp k' ok' h2
    unfold pairFine at hp2
    rw [cond_beq] at hp2
    by_cases hkk : k = k'
    · exact hkk
    · rw [if_neg hkk, h4, h3] at hp2
      simp at hp2
  have reads : ∀ t ∈ readsOf ops o, Rel E (T.get .bad (pa t) e.r) (a.tmps.getD t undef) := by
    intro t ht
    have htop : t ≤ top := by
      have := List.all_eq_true.1 hfine.2 t ht
      exact Nat.le_of_ble_eq_true this
    have order' : ∀ (k : Nat) (ok : Oper), k ≠ i → ops[k]? = some ok → ok.dst = some t → ∃ mk, (masksFrom [] ops.toList)[k]? = some mk ∧ (posOf poss k < posOf poss i → bitB mi k = true) ∧ (¬ posOf poss k < posOf poss i → bitB mk i = true) := by
      intro k ok hk hok hd
      obtain ⟨mk, q1, q2, _⟩ := hpair k ok hok
      refine ⟨mk, q1, ?_⟩
      unfold pairFine at q2
      rw [cond_beq, if_neg (fun e => hk e.symm), hd] at q2
      simp only [Bool.and_eq_true] at q2
      have q3 := q2.1
      rw [show (readsOf ops o).contains t = true from by simpa using ht] at q3
      simp only [cond_true] at q3
      refine ⟨fun hlt => ?_, fun hge => ?_⟩
      · rw [show Nat.blt (posOf poss k) (posOf poss i) = true from by rw [Nat.blt_eq]; exact hlt] at q3
        exact q3
      · rw [show Nat.blt (posOf poss k) (posOf poss i) = false from by rw [← Bool.not_eq_true, Nat.blt_eq]; exact hge] at q3
        exact q3
    rw [← hei]
    rcases C.regs (posOf poss i) (by omega) t htop with ⟨k, ok, ek, q1, q2, q3, q4, q5⟩ | ⟨q1, q2⟩
    · obtain ⟨mk, _, o1, _⟩ := order' k ok (fun e => by subst e; omega) q2 q3
      have hlk := hbit k (fun e => by subst e; omega) (o1 q1)
      rcases hregs t htop with ⟨k', ok', ek', p1, p2, p3, p4, p5⟩ | ⟨p1, _⟩
      · have := uniq k k' ok ok' t q2 p2 q3 p3
        subst this
        rw [q4] at p4; cases p4
        rw [q5]; exact p5
      · exact absurd q3 (p1 k ok hlk q2)
    · rcases hregs t htop with ⟨k', ok', ek', p1, p2, p3, p4, p5⟩ | ⟨_, p2⟩
      · have hki : k' ≠ i := fun e => hnot (e ▸ p1)
        obtain ⟨mk, m1, _, o2⟩ := order' k' ok' hki p2 p3
        by_cases hlt : posOf poss k' < posOf poss i
        · exact absurd p3 (q1 k' ok' hlt p2)
        · exact absurd (hmask k' mk i m1 (o2 hlt) p1) hnot
      · rw [q2]; exact p2
  have hli : i < listed.size := by rw [I.lsize]; exact hin
  have after : ∀ (s' : Nat) (F' : Fr) (E' : Env) (x : Value) (w' : World), s' ∈ starts → s' ≤ ops.size → (∀ k ok, ops[k]? = some ok → isChain P ok = true → ((k = i ∨ listed.getD k false = true) ↔ posOf poss k < s')) →
      (∀ k ok, ops[k]? = some ok → isAlloc ok = true → (k = i ∨ listed.getD k false = true) → posOf poss k < s') →
      Holds w0 F' es hf poss (Held ops es hf poss (listed.setIfInBounds i true) s') → E.le E' → Rel E' e.v x → Sim F' E' (heapAt es hf s') w' →
      DInv P w0 nt ops es r0 hf starts poss E0 (listed.setIfInBounds i true) (a.put o.dst x) w' := by
    intro s' F' E' x w' hs' hsn' hl' hal' hh' hle hx hsim'
    refine ⟨by simp [I.lsize], by cases h : o.dst <;> simp [Act.put, I.size], by cases h : o.dst <;> simp [Act.put, I.defers], ?_, E', s', F', hE.trans hle, hs', hsn', fun k ok h1 h2 => by rw [getD_set hli]; exact hl' k ok h1 h2,
      fun k ok h1 h2 h3 => hal' k ok h1 h2 ((getD_set hli).1 h3), hh', hsim', fun t ht => ?_⟩
    · intro k ok e' hk hok he' hb
      rw [getD_set hli] at hk ⊢
      rcases hD' k ok e' hk.symm hok he' hb with h | h
      · exact .inr h
      · exact .inl h
    · by_cases hd : o.dst = some t
      · refine .inl ⟨i, o, e, by rw [getD_set hli]; exact .inl rfl, hio, hd, hes, ?_⟩
        have hlt : t < a.tmps.size := by
          have := hfine.1
          rw [hd] at this
          simp only [dstFine, Bool.and_eq_true, Nat.blt_eq] at this
          rw [I.size]; exact this.1
        rw [hd]
        simp only [Act.put]
        rw [Array.getD_eq_getD_getElem?, Array.getElem?_setIfInBounds, if_pos rfl, if_pos hlt]
        exact hx
      · have hput : (a.put o.dst x).tmps.getD t undef = a.tmps.getD t undef := by
          cases hod : o.dst with
          | none => rfl
          | some d =>
            simp only [Act.put]
            rw [Array.getD_eq_getD_getElem?, Array.getD_eq_getD_getElem?, Array.getElem?_setIfInBounds, if_neg (fun e => hd (by rw [hod, e]))]
        rw [hput]
        rcases hregs t ht with ⟨k, ok, ek, p1, p2, p3, p4, p5⟩ | ⟨p1, p2⟩
        · exact .inl ⟨k, ok, ek, by rw [getD_set hli]; exact .inr p1, p2, p3, p4, Rel.mono hle _ _ p5⟩
        · refine .inr ⟨fun k ok hk hok => ?_, Rel.mono hle _ _ p2⟩
          rw [getD_set hli] at hk
          rcases hk with rfl | hk
          · rw [hio] at hok; cases hok; exact hd
          · exact p1 k ok hk hok
  have heldSame : ¬ (isAlloc o = true ∧ Made es hf poss i) → ∀ s' k, Held ops es hf poss (listed.setIfInBounds i true) s' k ↔ Held ops es hf poss listed s' k := by
    intro ha s' k
    constructor
    · rintro ⟨ok, q1, q2, q3, q4⟩
      exact ⟨ok, q1, q2, fun h => q3 ((getD_set hli).2 (.inr h)), q4⟩
    · rintro ⟨ok, q1, q2, q3, q4⟩
      refine ⟨ok, q1, q2, fun h => ?_, q4⟩
      rcases (getD_set hli).1 h with rfl | h
      · rw [hio] at q1; cases q1; exact ha q2
      · exact q3 h
  have level : isEff P o.op = true → s ≤ posOf poss i → s = posOf poss i ∧ isAlloc o = false := by
    intro heff hle
    rcases C.sts s hs with h | ⟨k, ok, k1, k2, k3⟩
    · omega
    · have hnk : ¬ listed.getD k false = true := fun h => by have := (hlev k ok k1 k2).1 h; omega
      have hkl := (Array.getElem?_eq_some_iff.1 k1).1
      by_cases hki : k = i
      · subst hki
        rw [hio] at k1; cases k1
        refine ⟨k3, ?_⟩
        unfold isChain at k2
        simpa [heff] using k2
      · have hlt : posOf poss k < posOf poss i := by
          have : posOf poss k ≠ posOf poss i := fun e => hki (C.posInj hkl hin e)
          omega
        obtain ⟨mk, _, _, q3⟩ := hpair k ok k1
        exact absurd (hbit k hki (q3 heff k2 hlt)) hnk
  cases heff : isEff P o.op with
  | true =>
    cases ha : isAlloc o with
    | true =>
      have hlt : posOf poss i < s := by
        rcases Nat.lt_or_ge (posOf poss i) s with h | h
        · exact h
        · have := (level heff h).2
          rw [ha] at this; cases this
      by_cases hm : Made es hf poss i
      case neg =>
        have hrun' : (dopC P nt ops o).run (calls i) e.r (heapAt es hf s) = .val e.v (heapAt es hf s) := by
          rcases dop_shape ha hrun with ⟨kk, k1, _⟩ | ⟨_, k1⟩
          · exact absurd (show Made es hf poss i from by unfold Made; rw [k1, hhi]; exact Nat.succ_ne_self _) hm
          · exact k1 _
        refine dop_sound hN (hcall i) (hbody i) hio hrun' I.size I.defers reads hsim fun E' x w' q1 q2 q3 => hK _ _ (after s F E' x w' hs hsn (fun k ok hok hkc => ?_) (fun k ok hok hka hk => ?_) (hheld.congr fun k => heldSame (fun h => hm h.2) s k) q1 q2 q3)
        · constructor
          · rintro (rfl | h)
            · rw [hio] at hok; cases hok
              unfold isChain at hkc
              rw [ha] at hkc
              simp at hkc
            · exact (hlev k ok hok hkc).1 h
          · intro h
            exact .inr ((hlev k ok hok hkc).2 h)
        · rcases hk with rfl | hk
          · exact hlt
          · exact hall k ok hok hka hk
      have hH : Held ops es hf poss listed s i := ⟨o, hio, ⟨ha, hm⟩, hnot, hlt⟩
      have hmade : (heapAt es hf (posOf poss i + 1)).next ≠ e.h.next := by rw [← hhi]; exact hm
      have hnm : nameAt es hf poss i = pa e.h.next := by unfold nameAt; rw [hhi]
      have hpd := (hheld.new i hH).1
      have hw0 := (hheld.new i hH).2
      have hblk : blkAt es hf poss i = (heapAt es hf (posOf poss i + 1)).get (pa e.h.next) := by unfold blkAt; rw [hnm]
      rw [hnm, hblk] at hpd
      refine dop_link hio ha hrun I.size I.defers reads hsim hmade hpd fun E' x w' q1 q2 q3 => hK _ _ (after s (F.free (pa e.h.next)) E' x w' hs hsn (fun k ok hok hkc => ?_) (fun k ok hok hka hk => ?_) ?_ q1 q2 q3)
      · constructor
        · rintro (rfl | h)
          · rw [hio] at hok; cases hok
            unfold isChain at hkc
            rw [ha] at hkc
            simp at hkc
          · exact (hlev k ok hok hkc).1 h
        · intro h
          exact .inr ((hlev k ok hok hkc).2 h)
      · rcases hk with rfl | hk
        · exact hlt
        · exact hall k ok hok hka hk
      · have sub : ∀ k, Held ops es hf poss (listed.setIfInBounds i true) s k → Held ops es hf poss listed s k ∧ k ≠ i := by
          rintro k ⟨ok, q1, q2, q3, q4⟩
          refine ⟨⟨ok, q1, q2, fun h => q3 ((getD_set hli).2 (.inr h)), q4⟩, fun e => q3 ((getD_set hli).2 (.inl e))⟩
        refine ⟨hheld.w, fun b hb => ?_, fun k hk => ?_, fun k k' hk hk' => hheld.inj k k' (sub k hk).1 (sub k' hk').1⟩
        · by_cases hbi : b = pa e.h.next
          · subst hbi
            simp only [Fr.free, if_true]
            rw [← hnm, hw0]
          · simp only [Fr.free, if_neg hbi]
            refine hheld.old b fun k hk => ?_
            by_cases hki : k = i
            · subst hki; rw [hnm]; exact fun e => hbi e.symm
            · obtain ⟨ok, q1, q2, q3, q4⟩ := hk
              refine hb k ⟨ok, q1, q2, fun h => ?_, q4⟩
              rcases (getD_set hli).1 h with h | h
              · exact hki h
              · exact q3 h
        · obtain ⟨hk1, hki⟩ := sub k hk
          have hne : nameAt es hf poss k ≠ pa e.h.next := fun e => hki (hheld.inj k i hk1 hH (by rw [e, hnm]))
          simp only [Fr.free, if_neg hne]
          exact hheld.new k hk1
    | false =>
      have hchain : isChain P o = true := by unfold isChain; rw [heff, ha]; rfl
      have hsi : s ≤ posOf poss i := by
        rcases Nat.lt_or_ge (posOf poss i) s with h | h
        · exact absurd ((hlev i o hio hchain).2 h) hnot
        · exact h
      have hse := (level heff hsi).1
      rw [← hhi, ← hse] at hrun
      refine dop_sound hN (hcall i) (hbody i) hio hrun I.size I.defers reads hsim fun E' x w' q1 q2 q3 => ?_
      rw [hse] at q3
      have hlists : ∀ k ok, ops[k]? = some ok → isAlloc ok = true → posOf poss i + 1 ≤ posOf poss k → ¬ (listed.setIfInBounds i true).getD k false = true := by
        intro k ok hok hka hp h
        rcases (getD_set hli).1 h with rfl | h
        · omega
        · have := hall k ok hok hka h
          omega
      have hheld1 : Holds w0 F es hf poss (Held ops es hf poss (listed.setIfInBounds i true) (posOf poss i + 1)) := by
        refine hheld.congr fun k => ?_
        rw [heldSame (fun h => by rw [ha] at h; cases h.1)]
        constructor
        · rintro ⟨ok, z1, z2, z3, z4⟩
          refine ⟨ok, z1, z2, z3, ?_⟩
          have hkl := (Array.getElem?_eq_some_iff.1 z1).1
          have : posOf poss k ≠ posOf poss i := fun e => by
            have := C.posInj hkl hin e
            subst this
            rw [hio] at z1; cases z1
            rw [ha] at z2; cases z2.1
          omega
        · rintro ⟨ok, z1, z2, z3, z4⟩
          exact ⟨ok, z1, z2, z3, by omega⟩
      obtain ⟨s', F', g1, g2, g3, g4, g5, g6⟩ := C.advance (ops.size - (posOf poss i + 1)) (posOf poss i + 1) (by omega) hlists F hheld1 q3
      refine hK _ _ (after s' F' E' x w' g1 g3 (fun k ok hok hkc => ?_) (fun k ok hok hka hk => ?_) g5 q1 q2 g6)
      · have hkl := (Array.getElem?_eq_some_iff.1 hok).1
        constructor
        · rintro (rfl | h)
          · omega
          · have := (hlev k ok hok hkc).1 h
            omega
        · intro h
          by_cases hki : k = i
          · exact .inl hki
          · refine .inr ((hlev k ok hok hkc).2 ?_)
            rcases Nat.lt_or_ge (posOf poss k) s with hh | hh
            · exact hh
            · have hne : posOf poss k ≠ posOf poss i := fun e => hki (C.posInj hkl hin e)
              have := g4 k ok hok hkc (by omega)
              omega
      · rcases hk with rfl | hk
        · omega
        · have := hall k ok hok hka hk
          omega
  | false =>
    have ha : isAlloc o = false := by
      cases h : isAlloc o with
      | false => rfl
      | true => rw [isAlloc_eff h] at heff; cases heff
    obtain ⟨c, hc, hrun'⟩ : ∃ c, (CallOk P c ∧ CallBody P c) ∧ (dopC P nt ops o).run c e.r (heapAt es hf s) = .val e.v (heapAt es hf s) := by
      cases hlo : looks o.op with
      | false => exact ⟨_, ⟨hcall i, hbody i⟩, (dop_quiet heff hrun).2 hlo _⟩
      | true =>
        obtain ⟨e', q1, q2⟩ := C.ask i o hio hlo heff
        rw [hes] at q1; cases q1
        obtain ⟨c, h', hc, q3⟩ := q2 s hs (zipAll_mk (by rw [masksFrom_length]; simp) fun k mk ok h1 h2 => by
          simp only [Nat.zero_add]
          have hok : ops[k]? = some ok := by simpa using h2
          cases hke : isChain P ok with
          | false => rfl
          | true =>
            simp only [cond_true]
            cases hks : Nat.blt (posOf poss k) s with
            | true =>
              rw [Nat.blt_eq] at hks
              simp only [cond_true, Bool.not_eq_true']
              cases hb : bitB mk i with
              | false => rfl
              | true => exact absurd (hmask k mk i h1 hb ((hlev k ok hok hke).2 hks)) hnot
            | false =>
              have hks' : ¬ posOf poss k < s := by rw [← Nat.blt_eq, hks]; simp
              simp only [cond_false, Bool.not_eq_true', hmi, Option.getD_some]
              cases hb : bitB mi k with
              | false => rfl
              | true =>
                by_cases hki : k = i
                · subst hki
                  rw [hio] at hok; cases hok
                  unfold isChain at hke
                  rw [heff] at hke; cases hke
                · exact absurd ((hlev k ok hok hke).1 (hbit k hki hb)) hks')
        rw [(dop_quiet heff q3).1] at q3
        exact ⟨c, hc, q3⟩
    refine dop_sound hN hc.1 hc.2 hio hrun' I.size I.defers reads hsim fun E' x w' q1 q2 q3 => hK _ _ (after s F E' x w' hs hsn (fun k ok hok hkc => ?_) (fun k ok hok hka hk => ?_) (hheld.congr fun k => heldSame (fun h => by rw [ha] at h; cases h.1) s k) q1 q2 q3)
    · constructor
      · rintro (rfl | h)
        · rw [hio] at hok; cases hok
          unfold isChain at hkc
          rw [heff] at hkc; cases hkc
        · exact (hlev k ok hok hkc).1 h
      · intro h
        exact .inr ((hlev k ok hok hkc).2 h)
    · rcases hk with rfl | hk
      · rw [hio] at hok; cases hok; rw [ha] at hka; cases hka
      · exact hall k ok hok hka hk
theorem draw_any {w0 : Fr} (hN : NamesOk P) (hcall : ∀ i, CallOk P (calls i)) (hbody : ∀ i, CallBody P (calls i)) (C : Cert P nt ops calls es r0 h0 rf hf starts order poss) {E0 : Env} {Q : Exit → Act → World → Prop}
    (hQ : ∀ E' a' w', E0.le E' → RegRel E' nt rf a' → Sim w0 E' hf w' → Q .normal a' w') : ∀ (fuel : Nat) (listed : Array Bool) (a : Act) (w : World), (List.range ops.size).countP (fun i => !listed.getD i false) ≤ fuel →
    DInv P w0 nt ops es r0 hf starts poss E0 listed a w → wpAny P .any ops Q fuel listed a w := by
  have done : ∀ (listed : Array Bool) (a : Act) (w : World), DInv P w0 nt ops es r0 hf starts poss E0 listed a w → Region.ready .any ops listed = [] → ∀ i, i < ops.size → listed.getD i false = true := by
    intro listed a w I hr i
    induction i using Nat.strongRecOn with
    | _ i ih =>
      intro hi
      cases hli : listed.getD i false with
      | true => rfl
      | false =>
        exfalso
        have hio : ops[i]? = some ops[i] := Array.getElem?_eq_getElem hi
        obtain ⟨mi, _, hon, _⟩ := C.fineAt hio
        have : i ∈ Region.ready .any ops listed := by
          rw [mem_ready]
          refine ⟨?_, ops[i], hio, fun e he hb => ?_⟩
          · have hsz : i < listed.size := by rw [I.lsize]; exact hi
            rw [Array.getD_eq_getD_getElem?, Array.getElem?_eq_getElem hsz] at hli ⊢
            exact hli
          · have h1 := List.all_eq_true.1 hon e (Array.mem_toList_iff.2 he)
            rw [binds_eq] at hb
            rw [hb] at h1
            simp only [Bool.not_true, Bool.false_or, Nat.blt_eq] at h1
            exact ih e.on h1 (by omega)
        rw [hr] at this
        simp at this
  have finish : ∀ (listed : Array Bool) (a : Act) (w : World), DInv P w0 nt ops es r0 hf starts poss E0 listed a w → Region.ready .any ops listed = [] → Q .normal a w := by
    intro listed a w I hr
    have hall := done listed a w I hr
    obtain ⟨E, s, F, hE, hs, hsn, hlev, _, hheld, hsim, hregs⟩ := I.main
    have hheap : heapAt es hf ops.size = hf := by
      have : es[ops.size]? = none := List.getElem?_eq_none (by rw [C.len]; exact Nat.le_refl _)
      simp [heapAt, this]
    have hregf : regAt es rf ops.size = rf := by
      have : es[ops.size]? = none := List.getElem?_eq_none (by rw [C.len]; exact Nat.le_refl _)
      simp [regAt, this]
    have hse : s = ops.size := by
      rcases C.sts s hs with h | ⟨k, ok, k1, k2, k3⟩
      · exact h
      · have := (hlev k ok k1 k2).1 (hall k (Array.getElem?_eq_some_iff.1 k1).1)
        omega
    subst hse
    have hF : F = w0 := hheld.none fun k hk => by
      obtain ⟨ok, q1, q2, q3, q4⟩ := hk
      exact q3 (hall k (Array.getElem?_eq_some_iff.1 q1).1)
    subst hF
    rw [hheap] at hsim
    refine hQ E a w hE ⟨I.size, I.defers, fun t ht => ?_⟩ hsim
    have huniq : ∀ (k k' : Nat) (ok ok' : Oper), ops[k]? = some ok → ops[k']? = some ok' → ok.dst = some t → ok'.dst = some t → k = k' := by
      intro k k' ok ok' h1 h2 h3 h4
      obtain ⟨mk, _, _, hp⟩ := C.fineAt h1
      obtain ⟨mk', _, hp2, _⟩ := hp k' ok' h2
      unfold pairFine at hp2
      rw [cond_beq] at hp2
      by_cases hkk : k = k'
      · exact hkk
      · rw [if_neg hkk, h4, h3] at hp2
        simp at hp2
    rcases C.regs ops.size (Nat.le_refl _) t ht with ⟨k, ok, ek, q1, q2, q3, q4, q5⟩ | ⟨q1, q2⟩
    · rw [hregf] at q5
      rcases hregs t ht with ⟨k', ok', ek', p1, p2, p3, p4, p5⟩ | ⟨p1, _⟩
      · have := huniq k k' ok ok' q2 p2 q3 p3
        subst this
        rw [q4] at p4; cases p4
        rw [q5]; exact p5
      · exact absurd q3 (p1 k ok (hall k (Array.getElem?_eq_some_iff.1 q2).1) q2)
    · rw [hregf] at q2
      rcases hregs t ht with ⟨k', ok', ek', p1, p2, p3, p4, p5⟩ | ⟨_, p2⟩
      · exact absurd p3 (q1 k' ok' (C.posLt k' (Array.getElem?_eq_some_iff.1 p2).1).1 p2)
      · rw [q2]; exact p2
  intro fuel
  induction fuel with
  | zero =>
    intro listed a w hc I
    have hall : ∀ i, i < ops.size → listed.getD i false = true := by
      intro i hi
      have h0 : (List.range ops.size).countP (fun i => !listed.getD i false) = 0 := by omega
      rw [List.countP_eq_zero] at h0
      simpa using h0 i (List.mem_range.2 hi)
    have hr : Region.ready .any ops listed = [] := by
      cases hq : Region.ready .any ops listed with
      | nil => rfl
      | cons j js =>
        exfalso
        have hj : j ∈ Region.ready .any ops listed := by rw [hq]; simp
        rw [mem_ready] at hj
        obtain ⟨h1, o, h2, _⟩ := hj
        have := hall j (Array.getElem?_eq_some_iff.1 h2).1
        rw [getD_iff] at this
        rw [Array.getD_eq_getD_getElem?, this] at h1
        simp at h1
    exact ⟨hr, finish listed a w I hr⟩
  | succ fuel ih =>
    intro listed a w hc I
    refine ⟨fun hr => finish listed a w I hr, fun i hi => ?_⟩
    refine draw_step hN hcall hbody C I hi fun a' w' I' => ih _ a' w' ?_ I'
    have hi2 := hi
    rw [mem_ready] at hi2
    obtain ⟨h1, o, h2, _⟩ := hi2
    have hin : i < ops.size := (Array.getElem?_eq_some_iff.1 h2).1
    have hli : i < listed.size := by rw [I.lsize]; exact hin
    have hnot : listed.getD i false = false := by
      rw [Array.getD_eq_getD_getElem?, Array.getElem?_eq_getElem hli] at h1 ⊢
      exact h1
    have := countP_lt (fun k => !listed.getD k false) (fun k => !(listed.setIfInBounds i true).getD k false) (List.range ops.size)
      (fun k _ hk => by
        simp only [Bool.not_eq_true'] at hk ⊢
        cases hq : listed.getD k false with
        | false => rfl
        | true =>
          have := (getD_set (k := k) hli).2 (.inr hq)
          rw [hk] at this
          cases this)
      ⟨i, List.mem_range.2 hin, by simp [hnot], by
        have := (getD_set (k := i) hli).2 (.inl rfl)
        simp [this]⟩
    omega
theorem drawC_sound {w0 : Fr} {E : Env} {h h' : Heap} {w : World} {id : Nat} (hM : P.follows .mixedOrders = true) (hN : NamesOk P) (hcall : CallOk P call) (hbody : CallBody P call) {r r' : Regs} {a : Act}
    (he : (drawC P nt ops).run call r h = .ok r' h') (k : RegRel E nt r a) (s : Sim w0 E h w) {Q : Exit → Act → World → Prop}
    (hQ : ∀ E' a' w', E.le E' → RegRel E' nt r' a' → Sim w0 E' h' w' → Q .normal a' w') : (Code.region id ops true).wp P Q a w := by
  unfold drawC at he
  generalize orderOf P ops = order at he
  generalize possFrom order 0 ops.toList = poss at he
  unfold drawPos at he
  cases hf : (permOk ops.size order poss && drawFine P ops poss) with
  | false => rw [hf] at he; cases he
  | true =>
    rw [hf] at he
    simp only [cond_true] at he
    simp only [Bool.and_eq_true] at hf
    obtain ⟨hperm, hfine⟩ := hf
    unfold permOk at hperm
    simp only [Bool.and_eq_true, Nat.beq_eq] at hperm
    obtain ⟨ho1, ho2, ho3, ho4⟩ := hperm
    have posLt : ∀ k, k < ops.size → posOf poss k < ops.size ∧ order[posOf poss k]? = some k := by
      intro k hk
      have hg : poss[k]? = some (posOf poss k) := by
        unfold posOf
        rw [List.getElem?_eq_getElem (by omega)]
        rfl
      have := permAt_get ho3 hg
      rw [Nat.zero_add] at this
      exact ⟨by have := (List.getElem?_eq_some_iff.1 this).1; omega, this⟩
    have ordAt : ∀ p, p < ops.size → ∃ i, i < ops.size ∧ posOf poss i = p := by
      intro p hp
      have hg : order[p]? = some (order[p]'(by omega)) := List.getElem?_eq_getElem (by omega)
      have := permAt_get ho4 hg
      rw [Nat.zero_add] at this
      refine ⟨order[p]'(by omega), by have := (List.getElem?_eq_some_iff.1 this).1; omega, ?_⟩
      unfold posOf
      rw [this]
      rfl
    have main : ∀ (q : AskC),
        (∀ es hf', (stepsD P nt ops (opsAt ops order)).run call r h = .ok es r' hf' → q.run call es hf' = true → ∀ j o, ops[j]? = some o → looks o.op = true → isEff P o.op = false → ∃ e, es[posOf poss j]? = some e ∧ ∀ s ∈ levelStarts P poss 0 ops.toList,
          mayStand P (masksFrom [] ops.toList) ops.toList poss j (((masksFrom [] ops.toList)[j]?).getD 0) s = true → ∃ h', (dopC P nt ops o).run call e.r (heapAt es hf' s) = .val e.v h') →
        drawRun (stepsD P nt ops (opsAt ops order)) q call r h = .ok r' h' → (Code.region id ops true).wp P Q a w := by
      intro q hask hrun
      unfold drawRun at hrun
      cases hst : (stepsD P nt ops (opsAt ops order)).run call r h with
      | fail => rw [hst] at hrun; cases hrun
      | ok es rr hh =>
        rw [hst] at hrun
        simp only at hrun
        cases hq : q.run call es hh with
        | false => rw [hq] at hrun; cases hrun
        | true =>
          rw [hq] at hrun
          simp only [cond_true, RR.ok.injEq] at hrun
          obtain ⟨rfl, rfl⟩ := hrun
          obtain ⟨q1, q2, q3, q4⟩ := stepsD_spec hst
          have C : Cert P nt ops (fun _ => call) es r h rr hh (levelStarts P poss 0 ops.toList) order poss :=
            ⟨by rw [q1, opsAt_length, ho1], posLt, ordAt, q2, q3, fun i o ho => q4 _ o (opsAt_get (posLt i (Array.getElem?_eq_some_iff.1 ho).1).2 ho), hfine,
              by simpa using levelStarts_end (P := P) (poss := poss) (l := ops.toList) (i := 0),
              fun j o h1 h2 => by simpa using levelStarts_mem (poss := poss) (i := 0) (j := j) (l := ops.toList) (by simpa using h1) h2,
              fun s hs => by
                rcases levelStarts_spec hs with h | ⟨j, o, h1, h2, h3⟩
                · exact .inl (by simpa using h)
                · exact .inr ⟨j, o, by simpa using h1, h2, by simpa using h3⟩,
              fun j o h1 h2 h3 => by
                obtain ⟨e, g1, g2⟩ := hask es hh hst hq j o h1 h2 h3
                exact ⟨e, g1, fun s hs hm => by obtain ⟨h', g3⟩ := g2 s hs hm; exact ⟨_, h', ⟨hcall, hbody⟩, g3⟩⟩⟩
          have hnone : ∀ k, ¬ (Array.replicate ops.size false).getD k false = true := by
            intro k
            rw [getD_iff, Array.getElem?_replicate]
            split <;> simp
          have hheld : Holds w0 w0 es hh poss (Held ops es hh poss (Array.replicate ops.size false) 0) :=
            ⟨rfl, fun _ _ => rfl, fun k hk => (by obtain ⟨_, _, _, _, h0⟩ := hk; omega), fun k k' hk => (by obtain ⟨_, _, _, _, h0⟩ := hk; omega)⟩
          obtain ⟨s', F', g1, g2, g3, g4, g5, g6⟩ := C.advance ops.size 0 (by omega) (fun k o _ _ _ => hnone k) w0 hheld (E := E) (w := { w with drawn := w.drawn }) (by rw [q2]; exact s.same rfl rfl rfl rfl)
          refine wp_region_any hM (draw_any hN (fun _ => hcall) (fun _ => hbody) C (E0 := E) hQ ops.size _ a _ ?_ ?_)
          · exact Nat.le_trans List.countP_le_length (by simp)
          · refine ⟨by simp, k.size, k.defers, fun k' o e hk => absurd hk (hnone k'), E, s', F', Env.le.refl E, g1, g3, fun k' o h1 h2 => ⟨fun h => absurd h (hnone k'), fun h => by have := g4 k' o h1 h2 (Nat.zero_le _); omega⟩,
              fun k' o _ _ h => absurd h (hnone k'), g5, ?_, fun t ht => .inr ⟨fun k' o hk => absurd hk (hnone k'), k.reg t ht⟩⟩
            exact g6.same rfl rfl rfl rfl
    cases hl : anyEff P ops.toList with
    | false =>
      rw [hl] at he
      have none : ∀ (l : List Oper), anyEff P l = false → ∀ (j : Nat) (o : Oper), l[j]? = some o → isEff P o.op = false := by
        intro l
        induction l with
        | nil => intro _ j o h; simp at h
        | cons x l ih =>
          intro h j o ho
          simp only [anyEff, Bool.or_eq_false_iff] at h
          cases j with
          | zero => simp only [List.getElem?_cons_zero, Option.some.injEq] at ho; subst ho; exact h.1
          | succ j => exact ih h.2 j o (by simpa using ho)
      refine main _ (fun es hf' hst _ j o ho hlo hq => ?_) he
      obtain ⟨q1, q2, q3, q4⟩ := stepsD_spec hst
      have hj := (Array.getElem?_eq_some_iff.1 ho).1
      obtain ⟨e, p1, p2, p3⟩ := q4 _ o (opsAt_get (posLt j hj).2 ho)
      refine ⟨e, p1, fun s hs _ => ?_⟩
      have hs' : s = ops.size := by
        rcases levelStarts_spec hs with h | ⟨j', o', h1, h2, h3⟩
        · simpa using h
        · have := none _ hl j' o' h1
          unfold isChain at h2
          rw [this] at h2
          cases h2
      have flat : ∀ d, d ≤ ops.size → heapAt es hf' d = heapAt es hf' 0 := by
        intro d
        induction d with
        | zero => intro _; rfl
        | succ d ih =>
          intro hd
          obtain ⟨i, hi1, hi2⟩ := ordAt d (by omega)
          have hio : ops[i]? = some ops[i] := Array.getElem?_eq_getElem hi1
          obtain ⟨ed, w1, w2, _⟩ := q4 _ ops[i] (opsAt_get (posLt i hi1).2 hio)
          rw [hi2] at w1 w2
          have hne : isEff P ops[i].op = false := none _ hl i _ (by simp)
          rw [(dop_quiet hne w2).1, ← ih (by omega)]
          simp [heapAt, w1]
      have hpj := (posLt j hj).1
      have : e.h = heapAt es hf' s := by rw [hs', flat ops.size (Nat.le_refl _), ← flat (posOf poss j) (by omega)]; simp [heapAt, p1]
      rw [← this]
      exact ⟨_, p2⟩
    | true =>
      rw [hl] at he
      refine main _ (fun es hf' hst hq j o ho hlo hqq => ?_) he
      have := asksC_spec hq j o (by simpa using ho) hlo hqq
      simpa using this
end
end Go.Proofs.YtjbiefneffiogaaGreat.Am

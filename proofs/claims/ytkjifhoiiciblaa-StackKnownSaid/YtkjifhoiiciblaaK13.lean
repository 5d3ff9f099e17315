/- The abstract machine, part K13 (a verified interpreter of the model's code: plain definitions and lemmas, no condition). -/
import Derived.Test.YtkjifhoiiciblaaK12
namespace Go.Proofs.Ytkjifhoiiciblaa.Am
open Go Go.RowKit

section
variable {P : Program}

theorem push_modify {α : Type} (a : Array α) (x : α) (f : α → α) : (a.push x).modify a.size f = a.push (f x) := by
  apply Array.ext_getElem?
  intro i
  rw [Array.getElem?_modify]
  simp only [Array.getElem?_push]
  by_cases h : a.size = i
  · subst h; simp
  · rw [if_neg h]
    have h' : ¬ i = a.size := fun e => h e.symm
    simp [h']

theorem convBytes_sound {w0 : World} {E : Env} {h h' : Heap} {w : World} (s : Sim w0 E h w) {x v : V} {X : Value} {e : TypeId} (he : convBytes.run x h = .val v h') (hx : Rel E x X) :
    ∃ st, X = .string st ∧ Gives w0 P E w (Conv.stringToBytes e st) v h' := by
  simp only [convBytes] at he
  cases x <;> simp only at he <;> try (cases he; done)
  rename_i st
  have := hx.str_of; subst this
  refine ⟨_, rfl, ?_⟩
  cases hg : newGrow h (bytesV st) 1 true with
  | none => rw [hg] at he; cases he
  | some h1 =>
    rw [hg] at he
    simp only [OR.val.injEq] at he
    obtain ⟨rfl, rfl⟩ := he
    let q : Question := .appendCap st.length 0 e
    let cap := q.cut (w.tape w.drawn q)
    have hcap : st.length ≤ cap := by show st.length ≤ st.length + _; omega
    let l : List Value := st.map fun b => Value.int .u8 b.toNat
    let rest : Array Value := Array.replicate (cap - st.length) (.int .u8 0)
    have hll : l.length = st.length := by simp [l]
    have hsize : (l.toArray ++ rest).size = cap := by simp [l, rest]; omega
    let w' : World := { w.drew with heap := w.heap.push (.cells (l.toArray ++ rest) e (cap, cap + 1)) }
    have hrun : (Conv.stringToBytes e ⟨⟨st⟩⟩).run P w = .ok (.slice (some ⟨w.heap.size, 0, none⟩) st.length cap) w' := by
      have hsz : (⟨⟨st⟩⟩ : ByteArray).size = st.length := rfl
      have hmap : ((⟨⟨st⟩⟩ : ByteArray).data.map fun b => (Value.int .u8 b.toNat : Value)) = l.toArray := by simp [l]
      simp only [Conv.stringToBytes, Sem.run_bind, run_choose, Question.forced, hsz, Bool.false_eq_true, if_false, Result.andThen_ok, newRow, run_newObj, hmap, markStringish, run_shape, Sem.run_pure]
      have hshape : ∀ (t : Nat → Question → Nat) (d : Nat) (os : Os) (o : Array (Nat × ByteArray)), World.shape? { heap := w.heap.push (.cells (l.toArray ++ Array.replicate ((Question.appendCap st.length 0 e).cut (w.tape w.drawn (.appendCap st.length 0 e)) - st.length) (.int .u8 0)) e), tape := t, drawn := d, os := os, output := o } w.heap.size = some (e, cap) := by
        intro t d os o
        simp only [World.shape?]
        rw [Array.getElem?_push, if_pos rfl]
        simp only
        rw [show (l.toArray ++ Array.replicate ((Question.appendCap st.length 0 e).cut (w.tape w.drawn (.appendCap st.length 0 e)) - st.length) (Value.int .u8 0)).size = cap from hsize]
      rw [hshape]
      simp only [run_freeze, Result.andThen_ok, World.freeze, Nat.one_ne_zero, if_false, push_modify]
      rfl
    have hrel := bytesV_rel E st
    obtain ⟨E', g1, g2, g3⟩ := newGrow_sound (w' := w') (el := e) (fz := (cap, cap + 1)) (cap := cap) (rest := rest) s hrel hg (by rw [hsize]; omega) (.inl (by rw [hsize]; exact Nat.le_refl _)) (fun h => by cases h) rfl rfl rfl rfl
    refine ⟨_, w', E', hrun, g1, ?_, g3⟩
    simp only [Rel]
    exact ⟨_, g2, by simp only; omega, by simp⟩

theorem onInt_val {v : V} {f : IntKind → Int → OR} {r : V} {h : Heap} (he : v.onInt .fail f = .val r h) : ∃ k n, v = .int k n ∧ f k n = .val r h := by
  cases v <;> simp only [V.onInt] at he <;> first
    | (cases he; done)
    | exact ⟨_, _, rfl, he⟩

theorem bytes_eta (b : ByteArray) : (⟨⟨b.data.toList⟩⟩ : ByteArray) = b := by cases b; rfl

theorem convC_sound {w0 : World} {E : Env} {h h' : Heap} {w : World} (s : Sim w0 E h w) {t u : TypeId} {x v : V} {X : Value} (he : (convC P t u).run x h = .val v h') (hx : Rel E x X) :
    Gives w0 P E w (convert t u X) v h' := by
  unfold convC at he
  cases ht : tiOf P t with
  | none => rw [ht] at he; cases he
  | some si =>
    cases hu : tiOf P u with
    | none => rw [ht, hu] at he; cases he
    | some di =>
      rw [ht, hu] at he
      simp only at he
      have r1 := run_und ht
      have r2 := run_und hu
      cases hd : di.und with
      | int k =>
        rw [hd] at he r2
        simp only at he
        obtain ⟨k', n, rfl, h1⟩ := onInt_val he
        simp only [OR.val.injEq] at h1
        obtain ⟨rfl, rfl⟩ := h1
        have := hx.int_of; subst this
        exact Gives.plain (Z := .int k (k.wrap n)) s (by simp only [convert, Sem.run_bind, r1, r2, Result.andThen_ok, Conv.intToInt, Sem.run_pure]) (by simp [Rel])
      | string =>
        rw [hd] at he r2
        simp only at he
        have plain : ∀ (X' : Value), (match x with
            | .str s => OR.val (.str s) h
            | .int _ n => .val (.str (Utf8.encode n).data.toList) h
            | _ => .fail) = .val v h' → Gives w0 P E w (convert t u X) v h' := by
          intro _ he
          cases x <;> simp only at he <;> try (cases he; done)
          · simp only [OR.val.injEq] at he
            obtain ⟨rfl, rfl⟩ := he
            have := hx.int_of; subst this
            rename_i k n
            refine Gives.plain (Z := .string (Utf8.encode n)) s (by simp only [convert, Sem.run_bind, r1, r2, Result.andThen_ok, Conv.intToString, Sem.run_pure]) ?_
            simp only [Rel, bytes_eta]
          · simp only [OR.val.injEq] at he
            obtain ⟨rfl, rfl⟩ := he
            have := hx.str_of; subst this
            exact Gives.plain s (by simp only [convert, Sem.run_bind, r1, r2, Result.andThen_ok, Sem.run_pure]) hx
        cases hs : si.und with
        | slice e =>
          rw [hs] at he r1
          simp only at he
          cases hte : tiOf P e with
          | none => rw [hte] at he; cases he
          | some ei =>
            rw [hte] at he
            simp only at he
            cases hei : ei.und with
            | int ke =>
              rw [hei] at he
              cases ke <;> simp only at he <;> try (cases he; done)
              have r3 := run_und hte
              rw [hei] at r3
              simp only [convStr] at he
              cases x <;> simp only at he <;> try (cases he; done)
              · rename_i b off len cap
                simp only [Rel] at hx
                obtain ⟨p, hp, _, rfl⟩ := hx
                obtain ⟨rfl, q, bs, hq, rfl, hrun⟩ := strAt_sound (P := P) (cap := cap) s he
                rw [hp] at hq; cases hq
                exact Gives.plain s (by simp only [convert, Sem.run_bind, r1, r2, r3, Result.andThen_ok]; exact hrun) (by simp [Rel])
              · rename_i b off len idx
                simp only [Rel] at hx
                obtain ⟨p, hp, _, rfl⟩ := hx
                obtain ⟨rfl, q, bs, hq, rfl, hrun⟩ := strAt_sound (P := P) (cap := p.cap - idx) s he
                rw [hp] at hq; cases hq
                exact Gives.plain s (by simp only [convert, Sem.run_bind, r1, r2, r3, Result.andThen_ok]; exact hrun) (by simp [Rel])
              · simp only [OR.val.injEq] at he
                obtain ⟨rfl, rfl⟩ := he
                simp only [Rel] at hx
                subst hx
                exact Gives.plain (Z := .string ByteArray.empty) s (by simp only [convert, Sem.run_bind, r1, r2, r3, Result.andThen_ok]; rfl) (by simp only [Rel]; rfl)
            | _ => rw [hei] at he; cases he
        | _ => rw [hs] at he; exact plain X he
      | slice e =>
        rw [hd] at he r2
        simp only at he
        cases hte : tiOf P e with
        | none => rw [hte] at he; cases he
        | some ei =>
          rw [hte] at he
          simp only at he
          cases hei : ei.und with
          | int ke =>
            rw [hei] at he
            cases ke <;> simp only at he <;> try (cases he; done)
            have r3 := run_und hte
            rw [hei] at r3
            obtain ⟨st, rfl, Z, w', E', g1, g2⟩ := convBytes_sound (P := P) (e := e) s he hx
            exact ⟨Z, w', E', by simp only [convert, Sem.run_bind, r1, r2, r3, Result.andThen_ok]; exact g1, g2⟩
          | _ => rw [hei] at he; cases he
      | _ => rw [hd] at he; cases he

/-! Literals. -/
def RelP (E : Env) : List (Nat × V) → List (Nat × Value) → Prop
  | [], l => l = []
  | (i, v) :: vs, l => ∃ y ys, l = (i, y) :: ys ∧ Rel E v y ∧ RelP E vs ys

theorem fillAt_length : ∀ (vs cs : List V) (off : Nat), (fillAt cs off vs).length = cs.length
  | [], cs, off => rfl
  | v :: vs, cs, off => by simp [fillAt, fillAt_length vs]

theorem fillAt_rel {E : Env} : ∀ {vs : List V} {l : List Value} {cs : List V} {a : Array Value} (off : Nat), RelL E vs l → RelL E cs a.toList → ∀ (k : Nat),
    RelL E (fillAt cs (off + k) vs) ((l.zipIdx k).foldl (fun cs (c, j) => cs.setIfInBounds (off + j) c) a).toList
  | [], l, cs, a, off, h, hc, k => by simp only [RelL] at h; subst h; simpa [fillAt] using hc
  | v :: vs, l, cs, a, off, h, hc, k => by
    simp only [RelL] at h
    obtain ⟨y, ys, rfl, hy, h⟩ := h
    simp only [fillAt, List.zipIdx_cons, List.foldl_cons]
    have := fillAt_rel (cs := cs.set (off + k) v) (a := a.setIfInBounds (off + k) y) off h (by simpa using hc.set (off + k) hy) (k + 1)
    exact this

theorem fillV_sound {E : Env} {place : Nat → Option (Nat × Nat)} : ∀ {ps : List (Nat × V)} {qs : List (Nat × Value)} {cs out : List V} {a : Array Value}, RelP E ps qs → RelL E cs a.toList →
    fillV place cs ps = some out → ∃ b, Instr.fill place a qs = some b ∧ RelL E out b.toList
  | [], qs, cs, out, a, hp, hc, h => by
    simp only [RelP] at hp; subst hp
    simp only [fillV, Option.some.injEq] at h
    subst h
    exact ⟨a, rfl, hc⟩
  | (i, v) :: ps, qs, cs, out, a, hp, hc, h => by
    simp only [RelP] at hp
    obtain ⟨y, ys, rfl, hy, hp⟩ := hp
    simp only [fillV] at h
    cases hpl : place i with
    | none => rw [hpl] at h; cases h
    | some q =>
      obtain ⟨off, size⟩ := q
      rw [hpl] at h
      simp only at h
      obtain ⟨h1, h2⟩ := cond_some h
      simp only [Bool.and_eq_true, Nat.beq_eq, Nat.ble_eq] at h1
      have hl := hy.cells (fun e => by subst e; simp [V.good] at h1)
      have hlen := hl.length
      have hcl := hc.length
      have hsz : y.cells.size = size := by have : y.cells.toList.length = v.cells.length := hlen; simp at this; omega
      have hoff : ¬ off + y.cells.size > a.size := by simp at hcl; omega
      have hf := fillAt_rel (a := a) off hl hc 0
      obtain ⟨b, hb1, hb2⟩ := fillV_sound (a := y.cells.zipIdx.foldl (fun cs (c, j) => cs.setIfInBounds (off + j) c) a) hp (by
        have e : y.cells.zipIdx.foldl (fun cs (c, j) => cs.setIfInBounds (off + j) c) a = (y.cells.toList.zipIdx 0).foldl (fun cs (c, j) => cs.setIfInBounds (off + j) c) a := by
          rw [← Array.foldl_toList]; simp
        rw [e]; exact hf) h2
      refine ⟨b, ?_, hb2⟩
      simp only [Instr.fill, hpl]
      rw [if_neg (by simp only [ne_eq, Bool.or_eq_true, decide_eq_true_eq, not_or]; exact ⟨fun e => e hsz, hoff⟩)]
      exact hb1
end
end Go.Proofs.Ytkjifhoiiciblaa.Am

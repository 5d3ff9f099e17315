/- The abstract machine, part K11 (a verified interpreter of the model's code: plain definitions and lemmas, no condition). -/
import Derived.Test.YtkjifhoiiciblaaK10
import Derived.Laws.Append
namespace Go.Proofs.Ytkjifhoiiciblaa.Am
open Go Go.RowKit

section
variable {P : Program}

theorem gets_length (cs : T V) : ∀ (n off : Nat), (gets cs off n).length = n
  | 0, _ => rfl
  | n + 1, off => by simp [gets, gets_length cs n]

theorem ofVal_cells_length (x : Value) : (ofVal x).cells.length = x.cells.size := by
  cases x with
  | agg cs => simp [ofVal, V.cells, Value.cells]
  | pointer a => cases a <;> rfl
  | slice a n c =>
    cases a with
    | some a => rfl
    | none =>
      simp only [ofVal, ofVal1]
      cases (Nat.beq n 0 && Nat.beq c 0) <;> rfl
  | map r => cases r <;> rfl
  | _ => rfl

theorem bytesV_rel (E : Env) : ∀ s : List UInt8, RelL E (bytesV s) (s.map fun b => Value.int .u8 b.toNat)
  | [] => rfl
  | b :: s => by simp only [bytesV, List.map, RelL]; exact ⟨_, _, rfl, by simp [Rel], bytesV_rel E s⟩

theorem bytesV_length : ∀ s : List UInt8, (bytesV s).length = s.length
  | [] => rfl
  | b :: s => by simp [bytesV, bytesV_length s]

theorem lenV_sound {E : Env} {x : V} {n : Nat} {X : Value} (he : lenV x = some n) (hx : Rel E x X) (w : World) : (Builtin.lenOf X).run P w = .ok n w := by
  cases x <;> simp only [lenV] at he <;> try (cases he; done)
  all_goals simp only [Option.some.injEq] at he
  all_goals subst he
  all_goals simp only [Rel] at hx
  · subst hx; rfl
  · obtain ⟨p, _, _, rfl⟩ := hx; rfl
  · obtain ⟨p, _, _, rfl⟩ := hx; rfl
  · obtain ⟨p, _, _, rfl⟩ := hx; rfl
  · subst hx; rfl

theorem srcAt_sound {w0 : World} {E : Env} {h : Heap} {w : World} (s : Sim w0 E h w) {size n off : Nat} {b : Pa} {vs : List V} (he : srcAt h size b off n = some vs) :
    ∃ p l, E b = some p ∧ RelL E vs l ∧ vs.length = n * size ∧ (∀ w' : World, w'.heap = w.heap → (loadCells ⟨p.blk, p.base + off, none⟩ (n * size)).run P w' = .ok l.toArray w') := by
  unfold srcAt at he
  obtain ⟨k, cs, p, c, el, fz, h1, hn, hp, hh, hc⟩ := see_sound s he
  obtain ⟨h2, h3⟩ := cond_some h1
  simp only [Option.some.injEq] at h3
  subst h3
  rw [Nat.ble_eq] at h2
  exact ⟨p, _, hp, gets_rel hc _ _ h2, gets_length _ _ _, fun w' hw => run_loadCells (by rw [hw]; exact hh) (by have := hc.1; omega)⟩

theorem srcCells_sound {w0 : World} {E : Env} {h : Heap} {w : World} (s : Sim w0 E h w) {size n : Nat} {x : V} {X : Value} {vs : List V} (he : srcCells h size x n = some vs) (hx : Rel E x X) :
    ∃ l, RelL E vs l ∧ vs.length = n * size ∧ (∀ w' : World, w'.heap = w.heap → (Builtin.firstCells size n X).run P w' = .ok l.toArray w') := by
  cases x <;> simp only [srcCells] at he <;> try (cases he; done)
  · rename_i st
    obtain ⟨h1, h2⟩ := cond_some he
    simp only [Bool.and_eq_true, Nat.beq_eq, Nat.ble_eq] at h1
    simp only [Option.some.injEq] at h2
    subst h2
    have := hx.str_of; subst this
    refine ⟨_, bytesV_rel E _, by rw [bytesV_length, h1.1]; simp; omega, fun w' _ => ?_⟩
    simp only [Builtin.firstCells, Sem.run_pure]
    congr 1
    apply Array.ext'
    simp
  · simp only [Rel] at hx
    obtain ⟨q, hq, _, rfl⟩ := hx
    obtain ⟨p, l, hp, hl, hn, hr⟩ := srcAt_sound (P := P) s he
    rw [hp] at hq; cases hq
    exact ⟨l, hl, hn, fun w' hw => by simp only [Builtin.firstCells]; exact hr w' hw⟩
  · simp only [Rel] at hx
    obtain ⟨q, hq, _, rfl⟩ := hx
    obtain ⟨p, l, hp, hl, hn, hr⟩ := srcAt_sound (P := P) s he
    rw [hp] at hq; cases hq
    exact ⟨l, hl, hn, fun w' hw => by simp only [Builtin.firstCells]; exact hr w' hw⟩
  · obtain ⟨h1, h2⟩ := cond_some he
    rw [Nat.beq_eq] at h1
    subst h1
    simp only [Option.some.injEq] at h2
    subst h2
    simp only [Rel] at hx
    obtain ⟨q, hq, _, rfl⟩ := hx
    exact ⟨[], rfl, by simp, fun w' _ => by simp [Builtin.firstCells, loadCells, loadCellsFrom]⟩
  · obtain ⟨h1, h2⟩ := cond_some he
    rw [Nat.beq_eq] at h1
    subst h1
    simp only [Option.some.injEq] at h2
    subst h2
    simp only [Rel] at hx
    subst hx
    exact ⟨[], rfl, by simp, fun w' _ => by simp [Builtin.firstCells]⟩

/-- a new block with room behind its cells -/
theorem newGrow_sound {w0 : World} {E : Env} {h h' : Heap} {w : World} (s : Sim w0 E h w) {vs : List V} {l : List Value} (hl : RelL E vs l) {esz : Nat} {st : Bool} (he : newGrow h vs esz st = some h')
    {cap : Nat} {rest : Array Value} {el : TypeId} {fz : Nat × Nat} (hcap : cap * esz ≤ (l.toArray ++ rest).size) (hfz : (l.toArray ++ rest).size ≤ fz.1 ∨ fz.2 ≤ fz.1) (hst : st = false → fz = (0, 0))
    {w' : World} (hw : w'.heap = w.heap.push (.cells (l.toArray ++ rest) el fz)) (hos : w'.os = w.os) (ht : w'.tape = w.tape) (ho : w'.output = w.output) :
    ∃ E', E.le E' ∧ E' (pa h.next) = some ⟨w.heap.size, 0, cap⟩ ∧ Sim w0 E' h' w' := by
  unfold newGrow at he
  obtain ⟨hc, he⟩ := cond_some he
  simp only [Bool.and_eq_true, Nat.ble_eq] at hc
  simp only [Option.some.injEq] at he
  subst he
  have hnone := s.fresh h.next (Nat.le_refl _) hc.1
  have hle : E.le (E.put (pa h.next) ⟨w.heap.size, 0, cap⟩) := Env.le_put hnone
  have hput : E.put (pa h.next) ⟨w.heap.size, 0, cap⟩ (pa h.next) = some ⟨w.heap.size, 0, cap⟩ := by unfold Env.put; rw [if_pos rfl]
  have hlen := hl.length
  have := fresh_cells (RelL.mono hle _ _ hl) hc.2.1 rest
  refine ⟨_, hle, hput, Sim.same (s.alloc (o := .cells (l.toArray ++ rest) el fz) hc.1 cap ?_) hw hos ht ho⟩
  exact ⟨hc.2.1, _, _, el, fz, hput, s.frame.size, by simp, hfz, hst, fun _ => by simpa using hcap, this⟩

theorem Sim.kill {w0 : World} {E : Env} {h : Heap} {w : World} (s : Sim w0 E h w) (b : Pa) : Sim w0 E (h.set b .dead) w := by
  refine ⟨fun b' => ?_, fun b1 b2 p1 p2 h1 h2 e1 e2 hbb => ?_, fun i hi => s.fresh i hi, s.frame⟩
  · rw [Heap.get_set]
    by_cases hb : b = b'
    · rw [if_pos hb]; trivial
    · rw [if_neg hb]; exact s.blk b'
  · rw [Heap.get_set] at h1 h2
    by_cases c1 : b = b1
    · rw [if_pos c1] at h1; cases h1
    · by_cases c2 : b = b2
      · rw [if_pos c2] at h2; cases h2
      · rw [if_neg c1] at h1; rw [if_neg c2] at h2
        exact s.inj b1 b2 p1 p2 h1 h2 e1 e2 hbb

/-- the outcome of what gives a value -/
def Gives (w0 : World) (P : Program) (E : Env) (w : World) (m : Sem Value) (v : V) (h' : Heap) : Prop :=
  ∃ Z w' E', m.run P w = .ok Z w' ∧ E.le E' ∧ Rel E' v Z ∧ Sim w0 E' h' w'

theorem Gives.plain {w0 : World} {E : Env} {h : Heap} {w : World} (s : Sim w0 E h w) {m : Sem Value} {v : V} {Z : Value} (h1 : m.run P w = .ok Z w) (h2 : Rel E v Z) : Gives w0 P E w m v h :=
  ⟨Z, w, E, h1, Env.le.refl E, h2, s⟩

/-! Append. -/
/-- the arguments' types -/
structure AppTypes (P : Program) (t u e : TypeId) (size bytes : Nat) : Prop where
  ut : ∀ w, (underlying t).run P w = .ok (.slice e) w
  uu : ∃ d, (∀ w, (underlying u).run P w = .ok d w) ∧ ∀ k, d ≠ .int k
  sz : ∀ w, (sizeOf e).run P w = .ok size w
  by_ : ∀ w, ∃ i, (typeInfo e).run P w = .ok i w ∧ i.bytes = bytes
  zr : ∃ x : Value, (∀ w, (zeroValue e).run P w = .ok x w) ∧ x.cells.size = size
  pos : 1 ≤ size
  small : bytes ≤ 4096

/-- an append that finds room -/
theorem run_append_in {t u e : TypeId} {size bytes : Nat} (H : AppTypes P t u e size bytes) {A : Option Addr} {sLen sCap n : Nat} {X ty} {l : List Value} {w w' : World}
    (hn : (Builtin.lenOf X).run P w = .ok n w) (hsrc : (Builtin.firstCells size n X).run P w = .ok l.toArray w) (hroom : sLen + n ≤ sCap)
    (hst : ∀ a, A = some a → (storeCells (a.add (sLen * size)) l).run P w = .ok () w') (hnone : A = none → w' = w) :
    (Builtin.append_ #[t, u] ty #[.slice A sLen sCap, X]).run P w = .ok (.slice A (sLen + n) sCap) w' := by
  obtain ⟨d, hd, hk⟩ := H.uu
  cases A with
  | none =>
    have := hnone rfl; subst this
    simp [Builtin.append_, H.ut, hd, H.sz, hn, hroom, hsrc]
  | some a =>
    have := hst a rfl
    simp [Builtin.append_, H.ut, hd, H.sz, hn, hroom, hsrc, this]

/-- one that finds none -/
theorem run_append_out {t u e : TypeId} {size bytes : Nat} (H : AppTypes P t u e size bytes) {A : Option Addr} {sLen sCap n : Nat} {X ty} {l old : List Value} {w : World}
    (hn : (Builtin.lenOf X).run P w = .ok n w) (hsrc : ∀ w' : World, w'.heap = w.heap → (Builtin.firstCells size n X).run P w' = .ok l.toArray w')
    (hold : ∀ w' : World, w'.heap = w.heap → (Builtin.firstCells size sLen (.slice A sLen sCap)).run P w' = .ok old.toArray w') (hroom : ¬ sLen + n ≤ sCap) (hsmall : sLen + n ≤ top)
    (ho : old.length = sLen * size) (hl : l.length = n * size) :
    ∃ cap rest w', sLen + n ≤ cap ∧ cap * size ≤ ((old ++ l).toArray ++ rest).size ∧
      (Builtin.append_ #[t, u] ty #[.slice A sLen sCap, X]).run P w = .ok (.slice (some ⟨w.heap.size, 0, none⟩) (sLen + n) cap) w' ∧
      w'.heap = w.heap.push (.cells ((old ++ l).toArray ++ rest) e) ∧ w'.os = w.os ∧ w'.tape = w.tape ∧ w'.output = w.output := by
  obtain ⟨d, hd, hk⟩ := H.uu
  obtain ⟨i, hi, hib⟩ := H.by_ w
  obtain ⟨z, hz, hzs⟩ := H.zr
  have hti : P.info? e = some i := by
    simp only [typeInfo, Sem.run_bind, run_program, Result.andThen_ok] at hi
    cases hq : P.info? e with
    | none => rw [hq] at hi; simp at hi
    | some j => rw [hq] at hi; simp at hi; rw [hi]
  have hi' : ∀ w', (typeInfo e).run P w' = .ok i w' := fun w' => run_typeInfo_some hti w'
  have h48 : ¬ (281474976710656 < Builtin.nextslicecap (sLen + n) sCap * i.bytes) := by
    have h1 : sCap < sLen + n := by omega
    have := growslice_fits (bytes := i.bytes) h1 (by
      rw [hib]
      have h2 : (sLen + n) * bytes ≤ top * 4096 := Nat.mul_le_mul hsmall H.small
      unfold top at h2
      omega)
    omega
  have hb0 : ¬ (9223372036854775807 < ((sLen : Int) + (n : Int))) := by unfold top at hsmall; omega
  let q : Question := .appendCap (sLen + n) sCap e
  let cap := q.cut (w.tape w.drawn q)
  have hcap : sLen + n ≤ cap := by show sLen + n ≤ (sLen + n) + _; omega
  refine ⟨cap, Builtin.zeroCells z.cells (cap - (sLen + n)), w.drew.alloc (.cells ((old ++ l).toArray ++ Builtin.zeroCells z.cells (cap - (sLen + n))) e), hcap, ?_, ?_, rfl, rfl, rfl, rfl⟩
  · simp only [Array.size_append, List.size_toArray, List.length_append, ho, hl]
    have : (Builtin.zeroCells z.cells (cap - (sLen + n))).size = (cap - (sLen + n)) * size := by simp [Builtin.zeroCells, hzs]
    rw [this, ← Nat.add_mul, ← Nat.add_mul]
    exact Nat.mul_le_mul_right _ (by omega)
  · have f1 := hsrc w.drew rfl
    have f2 := hold w.drew rfl
    simp [Builtin.append_, H.ut, hd, H.sz, hn, hroom, hi', h48, hb0, Question.forced, f1, f2, hz, newRow]
    refine ⟨rfl, ?_⟩
    have e1 : (old ++ l).toArray = old.toArray ++ l.toArray := by simp
    rw [e1, Array.append_assoc]

theorem cond_val {c : Bool} {x : OR} {v : V} {h : Heap} (he : (bif c then x else .fail) = OR.val v h) : c = true ∧ x = .val v h := by
  cases c with
  | false => cases he
  | true => exact ⟨rfl, he⟩

theorem appV_sound {w0 : World} {E : Env} {h h' : Heap} {w : World} (s : Sim w0 E h w) {t u e : TypeId} {size bytes : Nat} (H : AppTypes P t u e size bytes) {x y v : V} {X Y : Value} {ty : TypeId}
    (he : appV size x y h = .val v h') (hx : Rel E x X) (hy : Rel E y Y) : Gives w0 P E w (Builtin.append_ #[t, u] ty #[X, Y]) v h' := by
  unfold appV at he
  cases hlen : lenV y with
  | none => rw [hlen] at he; cases he
  | some n =>
    rw [hlen] at he
    simp only at he
    cases hsrc : srcCells h size y n with
    | none => rw [hsrc] at he; cases he
    | some new =>
      rw [hsrc] at he
      simp only at he
      obtain ⟨hnt, he1⟩ := cond_val he
      clear he
      have he := he1
      clear he1
      rw [Nat.ble_eq] at hnt
      have hn := lenV_sound (P := P) hlen hy w
      obtain ⟨l, hl, hll, hrun⟩ := srcCells_sound (P := P) s hsrc hy
      have hlL : l.length = n * size := by rw [hl.length, hll]
      cases x <;> simp only at he <;> try (cases he; done)
      · -- a slice of known capacity
        rename_i b off len cap
        simp only [Rel] at hx
        obtain ⟨p, hp, hlc, rfl⟩ := hx
        simp only [appKnown] at he
        cases hroom : Nat.ble (len + n) cap with
        | true =>
          rw [hroom] at he
          simp only [cond_true] at he
          rw [Nat.ble_eq] at hroom
          cases hlay : lay h b (off + len * size) new with
          | none => rw [hlay] at he; cases he
          | some h1 =>
          rw [hlay] at he
          simp only [OR.val.injEq] at he
          obtain ⟨rfl, rfl⟩ := he
          obtain ⟨w', hst, hs'⟩ := lay_sound (P := P) s hl hlay hp
          refine ⟨_, w', E, run_append_in H hn (hrun w rfl) hroom (fun a ha => ?_) (fun ha => by cases ha), Env.le.refl E, ?_, hs'⟩
          · cases ha
            rw [add_eq, Nat.add_assoc]
            exact hst
          · simp only [Rel]; exact ⟨p, hp, hroom, rfl⟩
        | false =>
          rw [hroom] at he
          simp only [cond_false] at he
          have hroom' : ¬ len + n ≤ cap := by rw [← Nat.ble_eq, hroom]; simp
          obtain ⟨hb, he⟩ := cond_val he
          simp only [Bool.and_eq_true, Nat.ble_eq] at hb
          cases hold : srcAt h size b off len with
          | none => rw [hold] at he; cases he
          | some old =>
          rw [hold] at he
          simp only at he
          cases hgrow : newGrow h (old ++ new) size false with
          | none => rw [hgrow] at he; cases he
          | some h1 =>
          rw [hgrow] at he
          simp only [OR.val.injEq] at he
          obtain ⟨rfl, rfl⟩ := he
          obtain ⟨q, lo, hq, hlo, hol, hor⟩ := srcAt_sound (P := P) s hold
          rw [hp] at hq; cases hq
          obtain ⟨c, rest, w', k1, k2, k3, k4, k5, k6, k7⟩ := run_append_out (P := P) H (A := some ⟨p.blk, p.base + off, none⟩) (sLen := len) (sCap := cap) (ty := ty) hn hrun
            (fun w' hw => by simp only [Builtin.firstCells]; exact hor w' hw) hroom' hb.1 (by rw [hlo.length, hol]) hlL
          obtain ⟨E', g1, g2, g3⟩ := newGrow_sound (w' := w') (fz := (0, 0)) s (hlo.append hl) hgrow k2 (.inr (Nat.le_refl _)) (fun _ => rfl) k4 k5 k6 k7
          refine ⟨_, w', E', k3, g1, ?_, g3⟩
          simp only [Rel]
          exact ⟨_, g2, by simp only; omega, by simp⟩
      · -- one that was appended to
        rename_i b off len idx
        have hx0 := hx
        simp only [Rel] at hx
        obtain ⟨p, hp, hic, rfl⟩ := hx
        simp only [appGrown] at he
        cases hn0 : Nat.beq n 0 with
        | true =>
          rw [hn0] at he
          simp only [cond_true] at he
          cases he
          rw [Nat.beq_eq] at hn0
          subst hn0
          have hl0 : l = [] := by cases l with | nil => rfl | cons _ _ => simp at hlL
          subst hl0
          refine ⟨_, w, E, run_append_in (w' := w) H hn (hrun w rfl) (by omega) (fun a _ => rfl) (fun ha => by cases ha), Env.le.refl E, ?_, s⟩
          simpa using hx0
        | false =>
          rw [hn0] at he
          simp only [cond_false] at he
          have hbk := s.blk b
          cases hg : h.get b with
          | dead => rw [hg] at he; cases he
          | view _ _ => rw [hg] at he; cases he
          | iter _ _ => rw [hg] at he; cases he
          | cells N cs esz st =>
            rw [hg] at he hbk
            simp only [Blk.on] at he
            obtain ⟨hb, he⟩ := cond_val he
            simp only [Bool.and_eq_true, Nat.ble_eq, Nat.beq_eq] at hb
            obtain ⟨⟨hesz, hnt2, hones⟩, hoff⟩ := hb
            cases hold : srcAt h size b off len with
            | none => rw [hold] at he; cases he
            | some old =>
            rw [hold] at he
            simp only at he
            cases hgrow : newGrow (h.set b .dead) (old ++ new) size st with
            | none => rw [hgrow] at he; cases he
            | some h1 =>
            rw [hgrow] at he
            simp only [OR.val.injEq] at he
            obtain ⟨rfl, rfl⟩ := he
            obtain ⟨q, lo, hq, hlo, hol, hor⟩ := srcAt_sound (P := P) s hold
            rw [hp] at hq; cases hq
            obtain ⟨hN, q, c, el, fz, e1, hB, hh, hfz, hst, hcap, hok⟩ := hbk
            rw [hp] at e1; cases e1
            have hpos := H.pos
            have hcap := hcap (by omega)
            rw [hesz] at hcap
            have sk := s.kill b
            by_cases hroom : len + n ≤ p.cap - idx
            · -- in place
              have hlt := (Array.getElem?_eq_some_iff.1 hh).1
              have hidx : (idx + len + n) * size ≤ p.cap * size := Nat.mul_le_mul_right _ (by omega)
              have hbound : p.base + off + len * size + 0 + l.length ≤ c.size := by
                rw [hlL, hoff]
                have : (idx + len + n) * size = idx * size + len * size + n * size := by rw [Nat.add_mul, Nat.add_mul]
                omega
              have hst2 := run_storeCells (P := P) hlt el fz (p.base + off + len * size) l c 0 (ones_mem hones hl) hbound hfz
              rw [withC_same hh, Nat.add_zero] at hst2
              have hrunA := run_append_in (P := P) (w' := withC w p.blk (layC c (p.base + off + len * size) l) el fz) (A := some ⟨p.blk, p.base + off, none⟩) (ty := ty) H hn (hrun w rfl) hroom
                (fun a ha => by cases ha; rw [add_eq]; exact hst2) (fun ha => by cases ha)
              unfold newGrow at hgrow
              obtain ⟨hc, hgrow⟩ := cond_some hgrow
              simp only [Bool.and_eq_true, Nat.ble_eq] at hc
              simp only [Option.some.injEq] at hgrow
              subst hgrow
              have hnx : (h.set b .dead).next = h.next := rfl
              rw [hnx] at hc
              have hnone := s.fresh h.next (Nat.le_refl _) hc.1
              have hle : E.le (E.put (pa h.next) ⟨p.blk, p.base + off, p.cap - idx⟩) := Env.le_put hnone
              have hput : E.put (pa h.next) ⟨p.blk, p.base + off, p.cap - idx⟩ (pa h.next) = some ⟨p.blk, p.base + off, p.cap - idx⟩ := by unfold Env.put; rw [if_pos rfl]
              refine ⟨_, _, _, hrunA, hle, ?_, Sim.add (p := ⟨p.blk, p.base + off, p.cap - idx⟩) sk hc.1 (by rw [withC_size]; exact Nat.le_refl _) (fun j _ hj => withC_other _ _ _ hj) hB (fun b' q' hown hq' heq => ?_) rfl rfl rfl ?_⟩
              · simp only [Rel]
                exact ⟨_, hput, by simp only; omega, by simp⟩
              · rw [Heap.get_set] at hown
                by_cases hbb : b = b'
                · rw [if_pos hbb] at hown; cases hown
                · rw [if_neg hbb] at hown
                  exact hbb (s.inj b b' p q' (by rw [hg]; rfl) hown hp hq' heq.symm)
              · have hlen2 : (old ++ new).length = (len + n) * size := by rw [List.length_append, hol, hll, Nat.add_mul]
                have hexp : (len + n) * size = len * size + n * size := Nat.add_mul _ _ _
                refine ⟨hc.2.1, _, _, el, fz, hput, hB, withC_heap hlt _ _ _, by rw [layC_size]; exact hfz, hst, fun _ => ?_, ?_⟩
                · rw [layC_size]
                  simp only
                  have : idx * size + (p.cap - idx) * size = p.cap * size := by rw [← Nat.add_mul]; congr 1; omega
                  omega
                · refine ⟨by rw [layC_size, hlen2, Nat.add_mul]; simp only; omega, fun i y hi hy => ?_⟩
                  rw [puts_get _ _ _ _ (by omega) (by omega), if_pos (by omega), Nat.sub_zero]
                  rw [layC_get _ _ _ _ (by omega)] at hy
                  simp only at hy
                  by_cases hio : i < len * size
                  · rw [if_neg (by omega)] at hy
                    rw [List.getElem?_append_left (by omega)]
                    have hgo := hor w rfl
                    have hreal := run_loadCells (P := P) (w := w) (off := p.base + off) (n := len * size) hh (by omega)
                    rw [hreal] at hgo
                    simp only [Result.ok.injEq, and_true] at hgo
                    have hlo2 : lo = (c.toList.drop (p.base + off)).take (len * size) := by
                      have := congrArg Array.toList hgo
                      simpa using this.symm
                    obtain ⟨y', hy', hr⟩ := hlo.get i old[i] (List.getElem?_eq_getElem (by omega))
                    rw [List.getElem?_eq_getElem (by omega)]
                    rw [hlo2] at hy'
                    rw [List.getElem?_take_of_lt (by omega), List.getElem?_drop] at hy'
                    simp only [Array.getElem?_toList] at hy'
                    rw [hy] at hy'
                    cases hy'
                    exact Rel.mono hle _ _ hr
                  · rw [if_pos (by omega)] at hy
                    rw [List.getElem?_append_right (by omega)]
                    have e3 : p.base + off + i - (p.base + off + len * size) = i - old.length := by omega
                    rw [e3] at hy
                    have hlt3 : i - old.length < new.length := by omega
                    obtain ⟨y', hy', hr⟩ := hl.get (i - old.length) new[i - old.length] (List.getElem?_eq_getElem hlt3)
                    rw [hy] at hy'; cases hy'
                    rw [List.getElem?_eq_getElem hlt3]
                    exact Rel.mono hle _ _ hr
            · -- elsewhere
              obtain ⟨c2, rest, w', k1, k2, k3, k4, k5, k6, k7⟩ := run_append_out (P := P) H (A := some ⟨p.blk, p.base + off, none⟩) (sLen := len) (sCap := p.cap - idx) (ty := ty) hn hrun
                (fun w' hw => by simp only [Builtin.firstCells]; exact hor w' hw) hroom hnt2 (by rw [hlo.length, hol]) hlL
              obtain ⟨E', g1, g2, g3⟩ := newGrow_sound (w' := w') (fz := (0, 0)) sk (hlo.append hl) hgrow k2 (.inr (Nat.le_refl _)) (fun _ => rfl) k4 k5 k6 k7
              refine ⟨_, w', E', k3, g1, ?_, g3⟩
              simp only [Rel]
              exact ⟨_, g2, by simp only; omega, by simp⟩
      · -- nil
        simp only [Rel] at hx
        subst hx
        simp only [appNil] at he
        cases hn0 : Nat.beq n 0 with
        | true =>
          rw [hn0] at he
          simp only [cond_true] at he
          cases he
          rw [Nat.beq_eq] at hn0
          subst hn0
          exact Gives.plain s (run_append_in (w' := w) H hn (hrun w rfl) (by omega) (fun a ha => by cases ha) (fun _ => rfl)) (by simp [Rel])
        | false =>
          rw [hn0] at he
          simp only [cond_false] at he
          have hn1 : ¬ n = 0 := by intro e; subst e; simp at hn0
          cases hgrow : newGrow h new size false with
          | none => rw [hgrow] at he; cases he
          | some h1 =>
          rw [hgrow] at he
          simp only [OR.val.injEq] at he
          obtain ⟨rfl, rfl⟩ := he
          obtain ⟨c, rest, w', k1, k2, k3, k4, k5, k6, k7⟩ := run_append_out (P := P) H (A := none) (sLen := 0) (sCap := 0) (old := []) (ty := ty) hn hrun
            (fun w' _ => by simp [Builtin.firstCells]) (by omega) (by omega) (by simp) hlL
          obtain ⟨E', g1, g2, g3⟩ := newGrow_sound (w' := w') (fz := (0, 0)) s hl hgrow k2 (.inr (Nat.le_refl _)) (fun _ => rfl) k4 k5 k6 k7
          refine ⟨_, w', E', k3, g1, ?_, g3⟩
          simp only [Rel]
          exact ⟨_, g2, by simp only; omega, by simp⟩
end
end Go.Proofs.Ytkjifhoiiciblaa.Am

/- The abstract machine, part K3 (a verified interpreter of the model's code: plain definitions and lemmas, no condition). -/
import Derived.Test.YtkjifhoiiciblaaK2
import Derived.Below
namespace Go.Proofs.Ytkjifhoiiciblaa.Am
open Go Go.RowKit

structure Pl where
  blk : Nat
  base : Nat
  cap : Nat

abbrev Env := Pa → Option Pl

mutual
def Rel (E : Env) : V → Value → Prop
  | .bad, _ => True
  | .bool b, x => x = .bool b
  | .int k n, x => x = .int k n
  | .str s, x => x = .string ⟨⟨s⟩⟩
  | .nilptr, x => x = .pointer none
  | .ptr b off, x => ∃ p, E b = some p ∧ x = .pointer (some ⟨p.blk, p.base + off, none⟩)
  | .slice b off len cap, x => ∃ p, E b = some p ∧ len ≤ cap ∧ x = .slice (some ⟨p.blk, p.base + off, none⟩) len cap
  | .gslice b off len idx, x => ∃ p, E b = some p ∧ idx + len ≤ p.cap ∧ x = .slice (some ⟨p.blk, p.base + off, none⟩) len (p.cap - idx)
  | .tslice b off off' idx, x => ∃ p, E b = some p ∧ idx ≤ p.cap ∧ x = .slice (some ⟨p.blk, p.base + (if p.cap = idx then off else off'), none⟩) 0 (p.cap - idx)
  | .nilslice, x => x = .slice none 0 0
  | .nilmap, x => x = .map none
  | .map b, x => ∃ p, E b = some p ∧ x = .map (some p.blk)
  | .func f cs, x => ∃ a, x = .func (.func f) #[] a ∧ RelL E cs a.toList
  | .nilfunc, x => x = .nilFunc
  | .iface t v, x => ∃ y, x = .iface t y ∧ Rel E v y
  | .nilIface, x => x = .nilIface
  | .agg cs, x => ∃ a, x = .agg a ∧ RelL E cs a.toList
  | .tuple cs, x => ∃ a, x = .tuple a ∧ RelL E cs a.toList
def RelL (E : Env) : List V → List Value → Prop
  | [], l => l = []
  | v :: vs, l => ∃ y ys, l = y :: ys ∧ Rel E v y ∧ RelL E vs ys
end

def Env.le (E E' : Env) : Prop := ∀ b p, E b = some p → E' b = some p

theorem Env.le.refl (E : Env) : E.le E := fun _ _ h => h
theorem Env.le.trans {E E' E'' : Env} (h : E.le E') (h' : E'.le E'') : E.le E'' := fun b p hp => h' b p (h b p hp)

mutual
theorem Rel.mono {E E' : Env} (h : E.le E') : ∀ (v : V) (x : Value), Rel E v x → Rel E' v x
  | .bad, _, _ => by simp [Rel]
  | .bool b, x, hr => by simpa [Rel] using hr
  | .int k n, x, hr => by simpa [Rel] using hr
  | .str s, x, hr => by simpa [Rel] using hr
  | .nilptr, x, hr => by simpa [Rel] using hr
  | .ptr b off, x, hr => by
    simp only [Rel] at hr ⊢
    obtain ⟨p, hp, hx⟩ := hr
    exact ⟨p, h _ _ hp, hx⟩
  | .slice b off len cap, x, hr => by
    simp only [Rel] at hr ⊢
    obtain ⟨p, hp, hx⟩ := hr
    exact ⟨p, h _ _ hp, hx⟩
  | .gslice b off len idx, x, hr => by
    simp only [Rel] at hr ⊢
    obtain ⟨p, hp, hx⟩ := hr
    exact ⟨p, h _ _ hp, hx⟩
  | .tslice b off off' idx, x, hr => by
    simp only [Rel] at hr ⊢
    obtain ⟨p, hp, hx⟩ := hr
    exact ⟨p, h _ _ hp, hx⟩
  | .nilslice, x, hr => by simpa [Rel] using hr
  | .nilmap, x, hr => by simpa [Rel] using hr
  | .map b, x, hr => by
    simp only [Rel] at hr ⊢
    obtain ⟨p, hp, hx⟩ := hr
    exact ⟨p, h _ _ hp, hx⟩
  | .func f cs, x, hr => by
    simp only [Rel] at hr ⊢
    obtain ⟨a, hx, hl⟩ := hr
    exact ⟨a, hx, RelL.mono h cs _ hl⟩
  | .nilfunc, x, hr => by simpa [Rel] using hr
  | .iface t v, x, hr => by
    simp only [Rel] at hr ⊢
    obtain ⟨y, hx, hy⟩ := hr
    exact ⟨y, hx, Rel.mono h v _ hy⟩
  | .nilIface, x, hr => by simpa [Rel] using hr
  | .agg cs, x, hr => by
    simp only [Rel] at hr ⊢
    obtain ⟨a, hx, hl⟩ := hr
    exact ⟨a, hx, RelL.mono h cs _ hl⟩
  | .tuple cs, x, hr => by
    simp only [Rel] at hr ⊢
    obtain ⟨a, hx, hl⟩ := hr
    exact ⟨a, hx, RelL.mono h cs _ hl⟩
theorem RelL.mono {E E' : Env} (h : E.le E') : ∀ (vs : List V) (l : List Value), RelL E vs l → RelL E' vs l
  | [], l, hr => by simpa [RelL] using hr
  | v :: vs, l, hr => by
    simp only [RelL] at hr ⊢
    obtain ⟨y, ys, hl, hy, hys⟩ := hr
    exact ⟨y, ys, hl, Rel.mono h v _ hy, RelL.mono h vs _ hys⟩
end

/-! Closed values. -/
theorem ofVal1_rel (E : Env) (v : Value) : Rel E (ofVal1 v) v := by
  cases v with
  | pointer a => cases a <;> simp [ofVal1, Rel]
  | slice a n c =>
    cases a with
    | some a => simp [ofVal1, Rel]
    | none =>
      simp only [ofVal1]
      cases hb : (Nat.beq n 0 && Nat.beq c 0) with
      | false => simp [Rel]
      | true =>
        simp only [Bool.and_eq_true, Nat.beq_eq] at hb
        obtain ⟨rfl, rfl⟩ := hb
        simp [Rel]
  | map r => cases r <;> simp [ofVal1, Rel]
  | _ => simp [ofVal1, Rel]

theorem ofVals_rel (E : Env) : ∀ l : List Value, RelL E (l.map ofVal1) l
  | [] => by simp [RelL]
  | v :: l => by
    simp only [List.map, RelL]
    exact ⟨v, l, rfl, ofVal1_rel E v, ofVals_rel E l⟩

theorem ofVal_rel (E : Env) (v : Value) : Rel E (ofVal v) v := by
  cases v with
  | agg cs => simp only [ofVal, Rel]; exact ⟨cs, rfl, ofVals_rel E _⟩
  | tuple cs => simp only [ofVal, Rel]; exact ⟨cs, rfl, ofVals_rel E _⟩
  | _ => simp only [ofVal]; exact ofVal1_rel E _

/-! Lists. -/
theorem RelL.length {E : Env} : ∀ {vs : List V} {l : List Value}, RelL E vs l → l.length = vs.length
  | [], l, h => by simp only [RelL] at h; subst h; rfl
  | v :: vs, l, h => by
    simp only [RelL] at h
    obtain ⟨y, ys, rfl, _, h⟩ := h
    simp [RelL.length h]

theorem RelL.get {E : Env} : ∀ {vs : List V} {l : List Value} (_ : RelL E vs l) (i : Nat) (v : V), vs[i]? = some v → ∃ y, l[i]? = some y ∧ Rel E v y
  | [], l, h, i, v, hv => by simp at hv
  | u :: vs, l, h, i, v, hv => by
    simp only [RelL] at h
    obtain ⟨y, ys, rfl, hy, h⟩ := h
    cases i with
    | zero => simp at hv; subst hv; exact ⟨y, rfl, hy⟩
    | succ i => simpa using RelL.get h i v (by simpa using hv)

theorem RelL.append {E : Env} : ∀ {vs vs' : List V} {l l' : List Value}, RelL E vs l → RelL E vs' l' → RelL E (vs ++ vs') (l ++ l')
  | [], vs', l, l', h, h' => by simp only [RelL] at h; subst h; simpa using h'
  | v :: vs, vs', l, l', h, h' => by
    simp only [RelL] at h
    obtain ⟨y, ys, rfl, hy, h⟩ := h
    simp only [List.cons_append, RelL]
    exact ⟨y, ys ++ l', rfl, hy, RelL.append h h'⟩

theorem RelL.drop {E : Env} : ∀ {vs : List V} {l : List Value} (_ : RelL E vs l) (n : Nat), RelL E (vs.drop n) (l.drop n)
  | [], l, h, n => by simp only [RelL] at h; subst h; simp [RelL]
  | v :: vs, l, h, n => by
    have h0 := h
    simp only [RelL] at h
    obtain ⟨y, ys, rfl, hy, h⟩ := h
    cases n with
    | zero => simpa using h0
    | succ n => simpa using RelL.drop h n

theorem RelL.take {E : Env} : ∀ {vs : List V} {l : List Value} (_ : RelL E vs l) (n : Nat), RelL E (vs.take n) (l.take n)
  | [], l, h, n => by simp only [RelL] at h; subst h; simp [RelL]
  | v :: vs, l, h, n => by
    simp only [RelL] at h
    obtain ⟨y, ys, rfl, hy, h⟩ := h
    cases n with
    | zero => simp [RelL]
    | succ n =>
      simp only [List.take_succ_cons, RelL]
      exact ⟨y, _, rfl, hy, RelL.take h n⟩

theorem RelL.set {E : Env} : ∀ {vs : List V} {l : List Value} (_ : RelL E vs l) (n : Nat) {v : V} {y : Value}, Rel E v y → RelL E (vs.set n v) (l.set n y)
  | [], l, h, n, v, y, hv => by simp only [RelL] at h; subst h; simp [RelL]
  | u :: vs, l, h, n, v, y, hv => by
    simp only [RelL] at h
    obtain ⟨z, ys, rfl, hz, h⟩ := h
    cases n with
    | zero => simp only [List.set, RelL]; exact ⟨y, ys, rfl, hv, h⟩
    | succ n => simp only [List.set, RelL]; exact ⟨z, _, rfl, hz, RelL.set h n hv⟩

theorem Rel.cells {E : Env} {v : V} {x : Value} (h : Rel E v x) (hb : v ≠ .bad) : RelL E v.cells x.cells.toList := by
  cases v with
  | bad => exact absurd rfl hb
  | agg cs => simp only [Rel] at h; obtain ⟨a, rfl, h⟩ := h; exact h
  | ptr b off => have h0 := h; simp only [Rel] at h; obtain ⟨p, hp, rfl⟩ := h; simp only [V.cells, Value.cells, RelL]; exact ⟨_, _, rfl, h0, rfl⟩
  | slice b off len cap => have h0 := h; simp only [Rel] at h; obtain ⟨p, hp, _, rfl⟩ := h; simp only [V.cells, Value.cells, RelL]; exact ⟨_, _, rfl, h0, rfl⟩
  | gslice b off len idx => have h0 := h; simp only [Rel] at h; obtain ⟨p, hp, _, rfl⟩ := h; simp only [V.cells, Value.cells, RelL]; exact ⟨_, _, rfl, h0, rfl⟩
  | tslice b off off' idx => have h0 := h; simp only [Rel] at h; obtain ⟨p, hp, _, rfl⟩ := h; simp only [V.cells, Value.cells, RelL]; exact ⟨_, _, rfl, h0, rfl⟩
  | map b => have h0 := h; simp only [Rel] at h; obtain ⟨p, hp, rfl⟩ := h; simp only [V.cells, Value.cells, RelL]; exact ⟨_, _, rfl, h0, rfl⟩
  | func f cs => have h0 := h; simp only [Rel] at h; obtain ⟨p, rfl, _⟩ := h; simp only [V.cells, Value.cells, RelL]; exact ⟨_, _, rfl, h0, rfl⟩
  | iface t v => have h0 := h; simp only [Rel] at h; obtain ⟨p, rfl, _⟩ := h; simp only [V.cells, Value.cells, RelL]; exact ⟨_, _, rfl, h0, rfl⟩
  | tuple vs => have h0 := h; simp only [Rel] at h; obtain ⟨p, rfl, _⟩ := h; simp only [V.cells, Value.cells, RelL]; exact ⟨_, _, rfl, h0, rfl⟩
  | _ => have h0 := h; simp only [Rel] at h; subst h; simp only [V.cells, Value.cells, RelL]; exact ⟨_, _, rfl, h0, rfl⟩

theorem Rel.one {E : Env} {v : V} {x : Value} (h : Rel E v x) (hb : v.one = true) : x.oneCell' = true := by
  cases v <;> simp only [Rel] at h <;> first
    | (simp [V.one] at hb; done)
    | (subst h; rfl)
    | (obtain ⟨_, _, rfl⟩ := h; rfl)
    | (obtain ⟨_, rfl, _⟩ := h; rfl)
    | (obtain ⟨_, _, _, rfl⟩ := h; rfl)

/-! Memory. -/
def CellsOk (E : Env) (n base : Nat) (cs : T V) (c : Array Value) : Prop :=
  base + n ≤ c.size ∧ ∀ i y, i < n → c[base + i]? = some y → Rel E (T.get .bad (pa i) cs) y

def BlkRel (B : Nat) (E : Env) (w : World) (b : Pa) : Blk → Prop
  | .dead => True
  | .cells n cs esz st => n ≤ top ∧ ∃ p c el fz, E b = some p ∧ B ≤ p.blk ∧ w.heap[p.blk]? = some (.cells c el fz) ∧ (c.size ≤ fz.1 ∨ fz.2 ≤ fz.1) ∧
      (st = false → fz = (0, 0)) ∧ (esz ≠ 0 → p.base + p.cap * esz ≤ c.size) ∧ CellsOk E n p.base cs c
  | .view n cs => n ≤ top ∧ ∃ p c el fz, E b = some p ∧ p.blk < B ∧ w.heap[p.blk]? = some (.cells c el fz) ∧ CellsOk E n p.base cs c
  | .iter s pos => ∃ p, E b = some p ∧ B ≤ p.blk ∧ p.base = 0 ∧ w.heap[p.blk]? = some (.stringIter ⟨⟨s⟩⟩ pos)

def Blk.own : Blk → Bool
  | .cells _ _ _ _ | .iter _ _ => true
  | _ => false

structure Sim (w0 : World) (E : Env) (h : Heap) (w : World) : Prop where
  blk : ∀ b, BlkRel w0.heap.size E w b (h.get b)
  inj : ∀ b b' p p', (h.get b).own = true → (h.get b').own = true → E b = some p → E b' = some p' → p.blk = p'.blk → b = b'
  fresh : ∀ i, h.next ≤ i → i ≤ top → E (pa i) = none
  frame : Below w0.heap.size w0 w

/-- a world of the same memory -/
theorem Sim.same {w0 : World} {E : Env} {h : Heap} {w w' : World} (s : Sim w0 E h w) (h1 : w'.heap = w.heap) (h2 : w'.os = w.os) (h3 : w'.tape = w.tape) (h4 : w'.output = w.output) : Sim w0 E h w' := by
  refine ⟨fun b => ?_, s.inj, s.fresh, ⟨h2.trans s.frame.os, h3.trans s.frame.tape, h4.trans s.frame.output, by rw [h1]; exact s.frame.size, by rw [h1]; exact s.frame.block⟩⟩
  have := s.blk b
  unfold BlkRel at this ⊢
  rw [h1]
  exact this

theorem CellsOk.mono {E E' : Env} (h : E.le E') {n base : Nat} {cs : T V} {c : Array Value} (k : CellsOk E n base cs c) : CellsOk E' n base cs c :=
  ⟨k.1, fun i y hi hy => Rel.mono h _ _ (k.2 i y hi hy)⟩

theorem BlkRel.mono {B : Nat} {E E' : Env} (h : E.le E') {w : World} {b : Pa} {k : Blk} (hb : BlkRel B E w b k) : BlkRel B E' w b k := by
  cases k with
  | dead => trivial
  | cells n cs esz st =>
    obtain ⟨hn, p, c, el, fz, h1, h2, h3, h4, h5, h6, h7⟩ := hb
    exact ⟨hn, p, c, el, fz, h _ _ h1, h2, h3, h4, h5, h6, h7.mono h⟩
  | view n cs =>
    obtain ⟨hn, p, c, el, fz, h1, h2, h3, h7⟩ := hb
    exact ⟨hn, p, c, el, fz, h _ _ h1, h2, h3, h7.mono h⟩
  | iter s pos =>
    obtain ⟨p, h1, h2⟩ := hb
    exact ⟨p, h _ _ h1, h2⟩

/-- a block's relation hangs on its own place alone -/
theorem BlkRel.keep {B : Nat} {E : Env} {w w' : World} {b : Pa} {k : Blk} (hb : BlkRel B E w b k)
    (hk : ∀ p, E b = some p → w'.heap[p.blk]? = w.heap[p.blk]?) : BlkRel B E w' b k := by
  cases k with
  | dead => trivial
  | cells n cs esz st =>
    obtain ⟨hn, p, c, el, fz, h1, h2, h3, h⟩ := hb
    exact ⟨hn, p, c, el, fz, h1, h2, (hk p h1).trans h3, h⟩
  | view n cs =>
    obtain ⟨hn, p, c, el, fz, h1, h2, h3, h⟩ := hb
    exact ⟨hn, p, c, el, fz, h1, h2, (hk p h1).trans h3, h⟩
  | iter s pos =>
    obtain ⟨p, h1, h2, h0, h3⟩ := hb
    exact ⟨p, h1, h2, h0, (hk p h1).trans h3⟩

theorem Heap.get_set (h : Heap) (b b' : Pa) (k : Blk) : (h.set b k).get b' = if b = b' then k else h.get b' := by
  unfold Heap.get Heap.set
  rw [T.get_put]

theorem Heap.get_new (h : Heap) (b' : Pa) (k : Blk) : (h.new k).get b' = if pa h.next = b' then k else h.get b' := by
  unfold Heap.get Heap.new
  rw [T.get_put]

/-- a block of one's own is laid anew, in its own place -/
theorem Sim.set {w0 : World} {E : Env} {h : Heap} {w : World} (s : Sim w0 E h w) {b : Pa} {k : Blk} {p : Pl} (hown : (h.get b).own = true) (hp : E b = some p) (hB : w0.heap.size ≤ p.blk)
    {w' : World} (hlt : w.heap.size ≤ w'.heap.size) (hoth : ∀ j, j ≠ p.blk → w'.heap[j]? = w.heap[j]?) (hos : w'.os = w.os) (ht : w'.tape = w.tape) (ho : w'.output = w.output)
    (hrel : BlkRel w0.heap.size E w' b k) : Sim w0 E (h.set b k) w' := by
  have hnext : (h.set b k).next = h.next := rfl
  refine ⟨fun b' => ?_, fun b1 b2 p1 p2 h1 h2 e1 e2 hbb => ?_, fun i hi => s.fresh i (hnext ▸ hi), ⟨hos.trans s.frame.os, ht.trans s.frame.tape, ho.trans s.frame.output, Nat.le_trans s.frame.size hlt, fun j hj => ?_⟩⟩
  · rw [Heap.get_set]
    by_cases hb : b = b'
    · subst hb; rw [if_pos rfl]; exact hrel
    · rw [if_neg hb]
      have hb' := s.blk b'
      cases hg : h.get b' with
      | dead => trivial
      | view n cs =>
        rw [hg] at hb'
        refine BlkRel.keep hb' fun q hq => hoth _ fun he => ?_
        obtain ⟨_, q', _, _, _, e, hlt', _⟩ := hb'
        rw [e] at hq; cases hq
        omega
      | cells n cs esz st =>
        rw [hg] at hb'
        refine BlkRel.keep hb' fun q hq => hoth _ fun he => hb ?_
        exact (s.inj b b' p q hown (by rw [hg]; rfl) hp hq he.symm)
      | iter st pos =>
        rw [hg] at hb'
        refine BlkRel.keep hb' fun q hq => hoth _ fun he => hb ?_
        exact (s.inj b b' p q hown (by rw [hg]; rfl) hp hq he.symm)
  · have own1 : (h.get b1).own = true := by
      rw [Heap.get_set] at h1
      by_cases hb : b = b1
      · subst hb; exact hown
      · rwa [if_neg hb] at h1
    have own2 : (h.get b2).own = true := by
      rw [Heap.get_set] at h2
      by_cases hb : b = b2
      · subst hb; exact hown
      · rwa [if_neg hb] at h2
    exact s.inj b1 b2 p1 p2 own1 own2 e1 e2 hbb
  · rw [hoth j (by omega)]; exact s.frame.block j hj

def Env.put (E : Env) (b : Pa) (p : Pl) : Env := fun b' => if b' = b then some p else E b'

theorem Env.le_put {E : Env} {b : Pa} {p : Pl} (h : E b = none) : E.le (E.put b p) := by
  intro b' q hq
  unfold Env.put
  by_cases hb : b' = b
  · subst hb; rw [h] at hq; cases hq
  · rw [if_neg hb]; exact hq

/-- a new block, in a place that no block of one's own has -/
theorem Sim.add {w0 : World} {E : Env} {h : Heap} {w : World} (s : Sim w0 E h w) (htop : h.next ≤ top) {k : Blk} {p : Pl}
    {w' : World} (hlt : w.heap.size ≤ w'.heap.size) (hoth : ∀ j, j < w.heap.size → j ≠ p.blk → w'.heap[j]? = w.heap[j]?) (hB : w0.heap.size ≤ p.blk)
    (hfree : ∀ b q, (h.get b).own = true → E b = some q → q.blk ≠ p.blk)
    (hos : w'.os = w.os) (ht : w'.tape = w.tape) (ho : w'.output = w.output)
    (hrel : BlkRel w0.heap.size (E.put (pa h.next) p) w' (pa h.next) k) : Sim w0 (E.put (pa h.next) p) (h.new k) w' := by
  have hnone := s.fresh h.next (Nat.le_refl _) htop
  have hle : E.le (E.put (pa h.next) p) := Env.le_put hnone
  have hput : E.put (pa h.next) p (pa h.next) = some p := by unfold Env.put; rw [if_pos rfl]
  have hne : ∀ b q, E b = some q → b ≠ pa h.next := by intro b q hq he; subst he; rw [hnone] at hq; cases hq
  have hold : ∀ b, b ≠ pa h.next → E.put (pa h.next) p b = E b := by intro b hb; unfold Env.put; rw [if_neg hb]
  have hblk : ∀ b q, E b = some q → (h.get b) ≠ .dead → q.blk < w.heap.size := by
    intro b q hq hd
    have hb := s.blk b
    cases hg : h.get b with
    | dead => exact absurd hg hd
    | view n cs => rw [hg] at hb; obtain ⟨_, q', c, el, fz, e, _, hh, _⟩ := hb; rw [e] at hq; cases hq; exact (Array.getElem?_eq_some_iff.1 hh).1
    | cells n cs esz st => rw [hg] at hb; obtain ⟨_, q', c, el, fz, e, _, hh, _⟩ := hb; rw [e] at hq; cases hq; exact (Array.getElem?_eq_some_iff.1 hh).1
    | iter st pos => rw [hg] at hb; obtain ⟨q', e, _, _, hh⟩ := hb; rw [e] at hq; cases hq; exact (Array.getElem?_eq_some_iff.1 hh).1
  refine ⟨fun b' => ?_, fun b1 b2 p1 p2 h1 h2 e1 e2 hbb => ?_, fun i hi hi' => ?_, ⟨hos.trans s.frame.os, ht.trans s.frame.tape, ho.trans s.frame.output, Nat.le_trans s.frame.size hlt, fun j hj => ?_⟩⟩
  · rw [Heap.get_new]
    by_cases hb : pa h.next = b'
    · subst hb; rw [if_pos rfl]; exact hrel
    · rw [if_neg hb]
      have hb' := (s.blk b').mono hle
      have hE := hold b' (fun e => hb e.symm)
      by_cases hd : h.get b' = .dead
      · rw [hd]; trivial
      · refine BlkRel.keep hb' fun q hq => ?_
        rw [hE] at hq
        refine hoth _ (hblk b' q hq hd) fun he => ?_
        have hb0 := s.blk b'
        cases hg : h.get b' with
        | dead => exact hd hg
        | view n cs =>
          rw [hg] at hb0
          obtain ⟨_, q', _, _, _, e, hl, _⟩ := hb0
          rw [e] at hq; cases hq
          omega
        | cells n cs esz st => exact hfree b' q (by rw [hg]; rfl) hq he
        | iter st pos => exact hfree b' q (by rw [hg]; rfl) hq he
  · rw [Heap.get_new] at h1 h2
    by_cases c1 : pa h.next = b1 <;> by_cases c2 : pa h.next = b2
    · exact c1.symm.trans c2
    · subst c1
      rw [if_neg c2] at h2
      rw [hput] at e1; cases e1
      rw [hold b2 (fun e => c2 e.symm)] at e2
      exact absurd hbb.symm (hfree b2 p2 h2 e2)
    · subst c2
      rw [if_neg c1] at h1
      rw [hput] at e2; cases e2
      rw [hold b1 (fun e => c1 e.symm)] at e1
      exact absurd hbb (hfree b1 p1 h1 e1)
    · rw [if_neg c1] at h1; rw [if_neg c2] at h2
      rw [hold b1 (fun e => c1 e.symm)] at e1
      rw [hold b2 (fun e => c2 e.symm)] at e2
      exact s.inj b1 b2 p1 p2 h1 h2 e1 e2 hbb
  · have hi2 : h.next + 1 ≤ i := hi
    have hne' : pa i ≠ pa h.next := fun e => by have := pa_inj hi' htop e; omega
    rw [hold _ hne']
    exact s.fresh i (by omega) hi'
  · rw [hoth j (by have := s.frame.size; omega) (by omega)]; exact s.frame.block j hj

/-- a new block, in a new place -/
theorem Sim.alloc {w0 : World} {E : Env} {h : Heap} {w : World} (s : Sim w0 E h w) (htop : h.next ≤ top) {k : Blk} {o : Obj} (cap : Nat)
    (hrel : BlkRel w0.heap.size (E.put (pa h.next) ⟨w.heap.size, 0, cap⟩) { w with heap := w.heap.push o } (pa h.next) k) :
    Sim w0 (E.put (pa h.next) ⟨w.heap.size, 0, cap⟩) (h.new k) { w with heap := w.heap.push o } := by
  refine s.add htop (p := ⟨w.heap.size, 0, cap⟩) (by simp) (fun j hj _ => ?_) s.frame.size (fun b q hb hq => ?_) rfl rfl rfl hrel
  · simp only [Array.getElem?_push]
    rw [if_neg (by omega)]
  · have hb0 := s.blk b
    cases hg : h.get b with
    | dead => rw [hg] at hb; cases hb
    | view n cs => rw [hg] at hb; cases hb
    | cells n cs esz st => rw [hg] at hb0; obtain ⟨_, q', c, el, fz, e, _, hh, _⟩ := hb0; rw [e] at hq; cases hq; have := (Array.getElem?_eq_some_iff.1 hh).1; simp only; omega
    | iter st pos => rw [hg] at hb0; obtain ⟨q', e, _, _, hh⟩ := hb0; rw [e] at hq; cases hq; have := (Array.getElem?_eq_some_iff.1 hh).1; simp only; omega
end Go.Proofs.Ytkjifhoiiciblaa.Am

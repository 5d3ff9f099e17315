/- The abstract machine and its walks (a verified interpreter of the model's code: plain definitions and lemmas, no condition). -/
import Derived.Test.YtkjifhoiiciblaaM5
import Derived.ChangeArms
import Derived.DataReads
import Derived.ChangeBears

namespace Go.Proofs.Ytkjifhoiiciblaa.Am
open Go Go.RowKit

/-! Arguments: what a call is handed, laid into the machine as views. -/

/-- what is below the end of memory stays: all that the machine knows stays true -/
theorem Sim.below {w0 : Fr} {E : Env} {h : Heap} {w w' : World} (s : Sim w0 E h w) (hb : Below w.heap.size w w') : Sim w0 E h w' := by
  have hsz : w0.w.heap.size ≤ w.heap.size := s.frame.size
  have keep : ∀ (k : Nat) (o : Obj), w.heap[k]? = some o → w'.heap[k]? = some o := by
    intro k o hk
    rw [hb.block k, hk]
    by_cases hlt : k < w.heap.size
    · exact hlt
    · rw [Array.getElem?_eq_none (by omega)] at hk
      cases hk
  refine ⟨fun b hp => ?_, s.pen, s.inj, s.fresh, s.frame.trans (hb.mono hsz)⟩
  have := s.blk b hp
  cases hk : h.get b <;> rw [hk] at this <;> simp only [BlkRel] at this ⊢
  · obtain ⟨q1, p, c, el, fz, q2, q3, q4, q5⟩ := this
    exact ⟨q1, p, c, el, fz, q2, q3, keep _ _ q4, q5⟩
  · obtain ⟨q1, p, c, el, fz, q2, q3, q4, q5⟩ := this
    exact ⟨q1, p, c, el, fz, q2, q3, keep _ _ q4, q5⟩
  · obtain ⟨p, q1, q2, q3, q4⟩ := this
    exact ⟨p, q1, q2, q3, keep _ _ q4⟩
  · obtain ⟨p, a, q1, q2, q3, q4⟩ := this
    exact ⟨p, a, q1, q2, keep _ _ q3, q4⟩

/-- a closed call, whatever the memory -/
theorem closed_callsV {P : Program} {f : FuncId} {v : V} (hv : ∀ E x, x = .bool true → Rel E v x) (hfn : ∃ fn, P.funcs[f]? = some fn ∧ fn.body.isSome = true) (H : ∀ w, Calls P f #[] w fun e w' => e = .returned (.bool true) ∧ Below w.heap.size w w') (h : Heap) :
    CallsV P f [] h v h := by
  refine ⟨hfn, fun w0 E w xs hx s => ?_⟩
  simp only [RelL] at hx
  subst hx
  refine (H w).mono fun e w' q => ?_
  obtain ⟨rfl, hb⟩ := q
  exact ⟨E, _, rfl, fun _ _ q => q, hv E _ rfl, s.below hb⟩

/-- a view of what the memory holds, laid into the machine -/
noncomputable def viewE (E : Env) (h : Heap) (p : Pl) : Env := fun b => if b = pa h.next then some p else E b
theorem viewE_self (E : Env) (h : Heap) (p : Pl) : viewE E h p (pa h.next) = some p := if_pos rfl
theorem viewE_le {w0 : Fr} {E : Env} {h : Heap} {w : World} (s : Sim w0 E h w) (p : Pl) : E.le (viewE E h p) := fun b q hq => by
  unfold viewE
  rw [if_neg (fun e => by rw [e, s.fresh _ (Nat.le_refl _)] at hq; cases hq)]
  exact hq

theorem sim_new {W : World} {E : Env} {h : Heap} (s : Sim ⟨W, fun _ => none⟩ E h W) (p : Pl) (k : Blk) (ho : k.own = false) (hk : BlkRel W.heap.size (viewE E h p) W (pa h.next) k) :
    Sim ⟨W, fun _ => none⟩ (viewE E h p) (h.new k) W := by
  refine ⟨fun b _ => ?_, fun _ _ h => (by cases h), fun b b' q q' h1 h2 e1 e2 hq => ?_, fun i hi => ?_, s.frame⟩
  · rw [get_new]
    by_cases e : pa h.next = b
    · subst e
      rw [if_pos rfl]
      exact hk
    · rw [if_neg e]
      exact (s.blk b rfl).mono (viewE_le s p)
  · rw [get_new] at h1 h2
    by_cases c1 : pa h.next = b
    · rw [if_pos c1, ho] at h1; cases h1
    · by_cases c2 : pa h.next = b'
      · rw [if_pos c2, ho] at h2; cases h2
      · rw [if_neg c1] at h1
        rw [if_neg c2] at h2
        unfold viewE at e1 e2
        rw [if_neg (fun e => c1 e.symm)] at e1
        rw [if_neg (fun e => c2 e.symm)] at e2
        exact s.inj b b' q q' h1 h2 e1 e2 hq
  · rw [next_new] at hi
    unfold viewE
    rw [if_neg (fun e => by have := pa_inj e; omega)]
    exact s.fresh i (by omega)

theorem sim_view {W : World} {E : Env} {h : Heap} (s : Sim ⟨W, fun _ => none⟩ E h W) {k base cap : Nat} {c : Array Value} {el : TypeId} {fz : Nat × Nat} (hk : W.heap[k]? = some (.cells c el fz)) {vs : List V}
    (hn : vs.length ≤ top) (hc : base + vs.length ≤ c.size) (hr : ∀ i v y, vs[i]? = some v → c[base + i]? = some y → Rel E v y) :
    Sim ⟨W, fun _ => none⟩ (viewE E h ⟨k, base, cap⟩) (h.new (.ro vs)) W := by
  refine sim_new s _ _ rfl ?_
  have hlt : k < W.heap.size := by
    by_cases hlt : k < W.heap.size
    · exact hlt
    · rw [Array.getElem?_eq_none (by omega)] at hk
      cases hk
  refine ⟨hn, ⟨k, base, cap⟩, c, el, fz, viewE_self _ _ _, hlt, hk, hc, fun i y hi hy => ?_⟩
  have : T.get .bad (pa i) (puts .e 0 vs) = vs[i] := by
    have := get_puts vs 0 i .e
    rw [Nat.zero_add] at this
    rw [this, if_pos hi, List.getElem?_eq_getElem hi]
    rfl
  rw [this]
  exact Rel.mono (viewE_le s _) _ _ (hr i _ y (List.getElem?_eq_getElem hi) hy)
end Go.Proofs.Ytkjifhoiiciblaa.Am

namespace Go.Proofs.Ytkjifhoiiciblaa.Am
set_option linter.unusedVariables false
open Go Go.RowKit

/-! What is handed in, by its type. -/
section
variable (P : Program)

/-- a struct's fields lie one behind the other -/
def tiles : List Field → Nat → Option Nat
  | [], o => some o
  | f :: fs, o => if f.offset = o then tiles fs (o + P.cellsOf f.type) else none
def tilesB : Bool := (List.range P.types.size).all fun t => match P.underlying t with
  | some (.struct fs) => decide (tiles P fs.toList 0 = some (P.cellsOf t))
  | _ => true

/-- cells of a type, as the machine holds what was handed in -/
def Shp (h : Heap) : Nat → TypeId → List V → Prop
  | 0, _, _ => False
  | n + 1, t, vs => match P.underlying t with
    | some .bool => ∃ b, vs = [.bool b]
    | some (.int k) => ∃ i, vs = [.int k i] ∧ (Lit.int k i).wf = true
    | some .string => ∃ s : List UInt8, vs = [.str s] ∧ s.length ≤ maxLen
    | some (.slice e) => vs = [.nilslice] ∨ (∃ b i j k, vs = [.tslice b i j k]) ∨ P.cellsOf e = 0 ∨
        ∃ b len cap, vs = [.slice b 0 len cap] ∧ 0 < len ∧ len ≤ cap ∧ cap ≤ maxLen ∧ Old h b ∧ (len * P.cellsOf e ≤ top → ∃ us, Rd h b us ∧ us.length = len * P.cellsOf e ∧ ∀ i, i < len → Shp h n e ((us.drop (i * P.cellsOf e)).take (P.cellsOf e)))
    | some (.struct fs) => vs.length = P.cellsOf t ∧ ∀ f ∈ fs.toList, Shp h n f.type ((vs.drop f.offset).take (P.cellsOf f.type))
    | some (.pointer e) => vs = [.nilptr] ∨ P.cellsOf e = 0 ∨ ∃ b, vs = [.ptr b 0] ∧ Old h b ∧ (P.cellsOf e ≤ top → ∃ us, Rd h b us ∧ us.length = P.cellsOf e ∧ Shp h n e us)
    | some (.map _ _) => vs = [.nilmap] ∨ vs = [.bad]
    | some (.interface _) => vs = [.nilIface] ∨ vs = [.bad]
    | _ => True
end

theorem Shp.ext {P : Program} {h h' : Heap} (e : Ext h h') : ∀ (n : Nat) (t : TypeId) (vs : List V), Shp P h n t vs → Shp P h' n t vs
  | 0, _, _, H => H
  | n + 1, t, vs, H => by
    unfold Shp at H ⊢
    split at H <;> try exact H
    · rcases H with H | H | H | ⟨b, len, cap, h1, h2, h3, h4, h5, h6⟩
      · exact .inl H
      · exact .inr (.inl H)
      · exact .inr (.inr (.inl H))
      · refine .inr (.inr (.inr ⟨b, len, cap, h1, h2, h3, h4, e.old h5, fun q => ?_⟩))
        obtain ⟨us, k1, k2, k3⟩ := h6 q
        exact ⟨us, e.rd h5 k1, k2, fun i hi => Shp.ext e n _ _ (k3 i hi)⟩
    · exact ⟨H.1, fun f hf => Shp.ext e n _ _ (H.2 f hf)⟩
    · rcases H with H | H | ⟨b, h1, h5, h6⟩
      · exact .inl H
      · exact .inr (.inl H)
      · refine .inr (.inr ⟨b, h1, e.old h5, fun q => ?_⟩)
        obtain ⟨us, k1, k2, k3⟩ := h6 q
        exact ⟨us, e.rd h5 k1, k2, Shp.ext e n _ _ k3⟩

theorem cells_get {w : World} {base : Nat} {a : Addr} {n : Nat} {l : List Value} (h : w.cells? base a n = some l) : l.length = n ∧ ∀ i, i < n → w.cell? (a.add i) = l[i]? := by
  unfold World.cells? at h
  split at h
  · exact ⟨by simpa using mapM_some_length h, fun i hi => mapM_some_get h i i (by simp [hi])⟩
  · cases h

theorem relL_mono {E E' : Env} (he : E.le E') {vs : List V} {l : List Value} (H : RelL E vs l) : RelL E' vs l := RelL.mono he vs l H

section
variable {H : Type} {enc : TypeId × Value → H} {P : Program} {W : World} {base : Nat} {sp : Nat → Bool} {held : Bool}

/-- what the reading of cells brings -/
def Lays (P : Program) (W : World) (n : Nat) (t : TypeId) (cs : List Value) : Prop :=
  ∀ (E : Env) (h : Heap), Sim ⟨W, fun _ => none⟩ E h W → ∃ E' h' vs, E.le E' ∧ Ext h h' ∧ Sim ⟨W, fun _ => none⟩ E' h' W ∧ RelL E' vs cs ∧ vs.length = cs.length ∧ Shp P h' n t vs

/-- pieces, one behind the other -/
theorem lays_pieces (n size : Nat) (e : TypeId) : ∀ (pieces : List (List Value)), (∀ l ∈ pieces, l.length = size ∧ Lays P W n e l) →
    ∀ (E : Env) (h : Heap), Sim ⟨W, fun _ => none⟩ E h W → ∃ E' h' us, E.le E' ∧ Ext h h' ∧ Sim ⟨W, fun _ => none⟩ E' h' W ∧ RelL E' us pieces.flatten ∧ us.length = pieces.length * size ∧
      ∀ i, i < pieces.length → Shp P h' n e ((us.drop (i * size)).take size)
  | [], _, E, h, s => ⟨E, h, [], fun _ _ q => q, Ext.refl h, s, rfl, by simp, fun i hi => by simp at hi⟩
  | l :: ls, hp, E, h, s => by
    obtain ⟨hl, H⟩ := hp l (by simp)
    obtain ⟨E1, h1, vs, a1, a2, a3, a4, a5, a6⟩ := H E h s
    obtain ⟨E2, h2, us, b1, b2, b3, b4, b5, b6⟩ := lays_pieces n size e ls (fun l hl => hp l (by simp [hl])) E1 h1 a3
    refine ⟨E2, h2, vs ++ us, a1.trans b1, a2.trans b2, b3, ?_, ?_, ?_⟩
    · rw [List.flatten_cons]
      exact RelL.append (relL_mono b1 a4) b4
    · rw [List.length_append, b5, a5, hl, List.length_cons, Nat.add_mul]
      omega
    · intro i hi
      cases i with
      | zero =>
        rw [Nat.zero_mul, List.drop_zero, List.take_left' (by rw [a5, hl])]
        exact Shp.ext b2 _ _ _ a6
      | succ i =>
        rw [Nat.add_mul, Nat.one_mul, Nat.add_comm, ← List.drop_drop, List.drop_left' (by rw [a5, hl])]
        exact b6 i (by simpa using hi)

/-- the fields of a struct -/
theorem lays_fields (n : Nat) : ∀ (fs : List Field) (o o' : Nat) (cs : List Value), tiles P fs o = some o' → cs.length = o' → (∀ f ∈ fs, Lays P W n f.type ((cs.drop f.offset).take (P.cellsOf f.type))) →
    o ≤ o' ∧ ∀ (E : Env) (h : Heap), Sim ⟨W, fun _ => none⟩ E h W → ∃ E' h' vs, E.le E' ∧ Ext h h' ∧ Sim ⟨W, fun _ => none⟩ E' h' W ∧ RelL E' vs (cs.drop o) ∧ vs.length = o' - o ∧
      ∀ f ∈ fs, o ≤ f.offset ∧ Shp P h' n f.type ((vs.drop (f.offset - o)).take (P.cellsOf f.type))
  | [], o, o', cs, ht, hl, _ => by
    simp only [tiles, Option.some.injEq] at ht
    subst ht
    refine ⟨Nat.le_refl _, fun E h s => ⟨E, h, [], fun _ _ q => q, Ext.refl h, s, ?_, by simp, fun f hf => by simp at hf⟩⟩
    rw [List.drop_eq_nil_of_le (by omega)]
    rfl
  | f :: fs, o, o', cs, ht, hl, hp => by
    simp only [tiles] at ht
    by_cases hf : f.offset = o
    · rw [if_pos hf] at ht
      obtain ⟨g1, g2⟩ := lays_fields n fs (o + P.cellsOf f.type) o' cs ht hl (fun f hf => hp f (by simp [hf]))
      refine ⟨by omega, fun E h s => ?_⟩
      have hpf := hp f (by simp)
      obtain ⟨E1, h1, vs, a1, a2, a3, a4, a5, a6⟩ := hpf E h s
      obtain ⟨E2, h2, us, b1, b2, b3, b4, b5, b6⟩ := g2 E1 h1 a3
      have hvl : vs.length = P.cellsOf f.type := by rw [a5, List.length_take, List.length_drop, hf]; omega
      refine ⟨E2, h2, vs ++ us, a1.trans b1, a2.trans b2, b3, ?_, ?_, ?_⟩
      · have e : cs.drop o = (cs.drop f.offset).take (P.cellsOf f.type) ++ cs.drop (o + P.cellsOf f.type) := by
          rw [hf, ← List.drop_drop, List.take_append_drop]
        rw [e]
        exact RelL.append (relL_mono b1 a4) b4
      · rw [List.length_append, hvl, b5]
        omega
      · intro g hg
        rcases List.mem_cons.1 hg with rfl | hg
        · refine ⟨by omega, ?_⟩
          rw [hf, Nat.sub_self, List.drop_zero, List.take_left' hvl]
          exact Shp.ext b2 _ _ _ a6
        · obtain ⟨c1, c2⟩ := b6 g hg
          refine ⟨by omega, ?_⟩
          rw [show g.offset - o = P.cellsOf f.type + (g.offset - (o + P.cellsOf f.type)) from by omega, ← List.drop_drop, List.drop_left' hvl]
          exact c2
    · rw [if_neg hf] at ht
      cases ht

theorem cell_some {w : World} {a : Addr} {y : Value} (h : w.cell? a = some y) : a.spot = none ∧ ∃ c el fz, w.heap[a.block]? = some (.cells c el fz) ∧ c[a.off]? = some y := by
  refine ⟨World.cell?_spot h, ?_⟩
  unfold World.cell? at h
  split at h
  · rename_i c el fz hh
    split at h
    · cases h
    · exact ⟨c, el, fz, hh, h⟩
  · cases h

theorem add_block (a : Addr) (n : Nat) : (a.add n).block = a.block := by unfold Addr.add; split <;> rfl
theorem add_off (a : Addr) (n : Nat) : (a.add n).off = a.off + n := by unfold Addr.add; split <;> simp_all

/-- a row of cells, from the first on -/
theorem row_cells {w : World} {a : Addr} {l : List Value} (h0 : 0 < l.length) (h : ∀ i, i < l.length → w.cell? (a.add i) = l[i]?) :
    a.spot = none ∧ ∃ c el fz, w.heap[a.block]? = some (.cells c el fz) ∧ a.off + l.length ≤ c.size ∧ ∀ i, i < l.length → c[a.off + i]? = l[i]? := by
  have hc0 : w.cell? (a.add 0) = some l[0] := by rw [h 0 h0]; exact List.getElem?_eq_getElem h0
  obtain ⟨s1, c, el, fz, s2, s3⟩ := cell_some hc0
  have e0 : a.add 0 = a := by unfold Addr.add; simp
  rw [e0] at s1 s2 s3
  have key : ∀ i, i < l.length → c[a.off + i]? = l[i]? := by
    intro i hi
    have q := h i hi
    rw [List.getElem?_eq_getElem hi] at q ⊢
    obtain ⟨_, c', el', fz', t2, t3⟩ := cell_some q
    rw [add_block, s2] at t2
    rw [add_off] at t3
    simp only [Option.some.injEq, Obj.cells.injEq] at t2
    obtain ⟨rfl, _, _⟩ := t2
    exact t3
  refine ⟨s1, c, el, fz, s2, ?_, key⟩
  have := key (l.length - 1) (by omega)
  rw [List.getElem?_eq_getElem (by omega)] at this
  have hlt := (Array.getElem?_eq_some_iff.1 this).1
  omega

/-- a view of a row -/
theorem view_row {E : Env} {h : Heap} (s : Sim ⟨W, fun _ => none⟩ E h W) {a : Addr} {cap : Nat} {l : List Value} (h0 : 0 < l.length) (hc : ∀ i, i < l.length → W.cell? (a.add i) = l[i]?) {us : List V} (hr : RelL E us l) :
    ∃ E' h' b, E.le E' ∧ Ext h h' ∧ Sim ⟨W, fun _ => none⟩ E' h' W ∧ Old h' b ∧ a.spot = none ∧ E' b = some ⟨a.block, a.off, cap⟩ ∧ (us.length ≤ top → Rd h' b us) := by
  obtain ⟨s1, c, el, fz, s2, s3, s4⟩ := row_cells h0 hc
  have hul : us.length = l.length := (RelL.length hr).symm
  by_cases ht : us.length ≤ top
  · refine ⟨viewE E h ⟨a.block, a.off, cap⟩, h.new (.ro us), pa h.next, viewE_le s _, (Ext.refl h).new _, sim_view s s2 ht (by omega) fun i v y hv hy => ?_, old_self, s1, viewE_self _ _ _, fun _ => .inl (get_new_self _)⟩
    have hi : i < l.length := by
      have := (List.getElem?_eq_some_iff.1 hv).1
      omega
    rw [s4 i hi] at hy
    obtain ⟨y', e1, e2⟩ := RelL.get hr i v hv
    rw [hy] at e1
    simp only [Option.some.injEq] at e1
    rw [e1]
    exact e2
  · exact ⟨viewE E h ⟨a.block, a.off, cap⟩, h.new .dead, pa h.next, viewE_le s _, (Ext.refl h).new _, sim_new s _ _ rfl trivial, old_self, s1, viewE_self _ _ _, fun q => absurd q ht⟩

theorem flatten_get {α : Type} (size : Nat) : ∀ (pieces : List (List α)) (i j : Nat), (∀ l ∈ pieces, l.length = size) → i < pieces.length → j < size → pieces.flatten[i * size + j]? = (pieces[i]?).bind (·[j]?)
  | [], i, j, _, hi, _ => by simp at hi
  | l :: ls, i, j, hp, hi, hj => by
    have hl : l.length = size := hp l (by simp)
    cases i with
    | zero =>
      rw [Nat.zero_mul, Nat.zero_add, List.flatten_cons, List.getElem?_append_left (by omega)]
      simp
    | succ i =>
      rw [List.flatten_cons, List.getElem?_append_right (by rw [hl, Nat.add_mul]; omega)]
      rw [show (i + 1) * size + j - l.length = i * size + j from by rw [hl, Nat.add_mul]; omega]
      rw [flatten_get size ls i j (fun l hl => hp l (by simp [hl])) (by simpa using hi) hj]
      simp
theorem flatten_len {α : Type} (size : Nat) : ∀ (pieces : List (List α)), (∀ l ∈ pieces, l.length = size) → pieces.flatten.length = pieces.length * size
  | [], _ => by simp
  | l :: ls, hp => by
    rw [List.flatten_cons, List.length_append, flatten_len size ls (fun l hl => hp l (by simp [hl])), hp l (by simp), List.length_cons, Nat.add_mul]
    omega

theorem pick_all {α : Type} (R : Nat → α → Prop) : ∀ (len : Nat), (∀ i, i < len → ∃ l, R i l) → ∃ ps : List α, ps.length = len ∧ ∀ i l, ps[i]? = some l → R i l
  | 0, _ => ⟨[], rfl, fun i l q => by simp at q⟩
  | m + 1, h => by
    obtain ⟨ps, q1, q2⟩ := pick_all R m (fun i hi => h i (by omega))
    obtain ⟨l, h1⟩ := h m (by omega)
    refine ⟨ps ++ [l], by simp [q1], fun i l' hl' => ?_⟩
    by_cases hi : i < ps.length
    · rw [List.getElem?_append_left hi] at hl'
      exact q2 i l' hl'
    · rw [List.getElem?_append_right (by omega)] at hl'
      have e0 : i - ps.length = 0 := by
        by_cases q : i - ps.length = 0
        · exact q
        · rw [List.getElem?_eq_none (by simp; omega)] at hl'
          cases hl'
      rw [e0] at hl'
      simp at hl'
      subst hl'
      obtain rfl : i = m := by omega
      exact h1

/-- WHATEVER CAN BE READ LIES SO IN THE MACHINE. -/
theorem lays (hT : tilesB P = true) (hL : laidOutB P = true) : ∀ (n : Nat) (t : TypeId) (cs : List Value) (x : DataW H × List MemPlace), t < P.types.size → DataW.trod enc P W base sp held n t cs = some x → Lays P W n t cs
  | 0, t, cs, x, _, h => by simp [DataW.trod] at h
  | n + 1, t, cs, x, hlt, h => by
    have bads : ∀ (cs : List Value), (∀ h' vs, vs.length = cs.length → Shp P h' (n + 1) t vs) → Lays P W (n + 1) t cs := by
      intro cs H E h s
      refine ⟨E, h, cs.map fun _ => .bad, fun _ _ q => q, Ext.refl h, s, ?_, by simp, H _ _ (by simp)⟩
      clear H
      induction cs with
      | nil => rfl
      | cons c cs ih => exact ⟨c, cs, rfl, by simp [Rel], ih⟩
    cases hu : P.underlying t with
    | none =>
      refine bads cs fun h' vs _ => ?_
      simp only [Shp, hu]
    | some u =>
      cases u with
      | bool =>
        obtain ⟨b, rfl, _⟩ := DataW.trod_bool hu h
        intro E h s
        exact ⟨E, h, [.bool b], fun _ _ q => q, Ext.refl h, s, ⟨_, _, rfl, rfl, rfl⟩, rfl, by simp only [Shp, hu]; exact ⟨b, rfl⟩⟩
      | int k =>
        obtain ⟨i, rfl, _, hw⟩ := DataW.trod_int hu h
        intro E h s
        exact ⟨E, h, [.int k i], fun _ _ q => q, Ext.refl h, s, ⟨_, _, rfl, rfl, rfl⟩, rfl, by simp only [Shp, hu]; exact ⟨i, rfl, hw⟩⟩
      | string =>
        obtain ⟨b, rfl, _, hw⟩ := DataW.trod_string hu h
        intro E h s
        exact ⟨E, h, [.str b.data.toList], fun _ _ q => q, Ext.refl h, s, ⟨_, _, rfl, rfl, rfl⟩, rfl, by simp only [Shp, hu]; exact ⟨_, rfl, by simpa using hw⟩⟩
      | struct fs =>
        obtain ⟨xs, n', hn, _, hl, hxl, hf⟩ := DataW.trod_struct hu h
        obtain rfl : n = n' := by omega
        have htile : tiles P fs.toList 0 = some (P.cellsOf t) := by
          unfold tilesB at hT
          rw [List.all_eq_true] at hT
          have := hT t (List.mem_range.2 hlt)
          rw [hu] at this
          exact of_decide_eq_true this
        have hfl : ∀ f ∈ fs.toList, Lays P W n f.type ((cs.drop f.offset).take (P.cellsOf f.type)) := by
          intro f hf'
          obtain ⟨i, hi⟩ := List.getElem?_of_mem hf'
          have hi' : fs[i]? = some f := by simpa using hi
          have := hf i f hi'
          have hlx : i < xs.length := by
            rw [hxl]
            exact (Array.getElem?_eq_some_iff.1 hi').1
          rw [List.getElem?_eq_getElem hlx] at this
          exact lays hT hL n _ _ _ ((kid_struct hL hlt hu).1 f hf') this
        intro E h s
        obtain ⟨_, g⟩ := lays_fields n fs.toList 0 _ cs htile hl hfl
        obtain ⟨E', h', vs, a1, a2, a3, a4, a5, a6⟩ := g E h s
        refine ⟨E', h', vs, a1, a2, a3, by simpa using a4, by rw [a5, hl]; omega, ?_⟩
        simp only [Shp, hu]
        refine ⟨by omega, fun f hf' => ?_⟩
        simpa using (a6 f hf').2
      | slice e =>
        rcases DataW.trod_slice hu h with ⟨rfl, _⟩ | ⟨a, len, cap, elems, rest, n', hn, rfl, _, hb, hlc, hcm, hel, hget, _, _⟩
        · intro E h s
          exact ⟨E, h, [.nilslice], fun _ _ q => q, Ext.refl h, s, ⟨_, _, rfl, rfl, rfl⟩, rfl, by simp only [Shp, hu]; exact .inl trivial⟩
        · obtain rfl : n = n' := by omega
          by_cases hs : P.cellsOf e = 0
          · refine bads _ fun h' vs _ => ?_
            simp only [Shp, hu]
            exact .inr (.inr (.inl hs))
          by_cases hl0 : len = 0
          · subst hl0
            intro E h s
            refine ⟨E, h, [.tslice .z 0 0 0], fun _ _ q => q, Ext.refl h, s, ⟨_, _, rfl, ?_, rfl⟩, rfl, by simp only [Shp, hu]; exact .inr (.inl ⟨_, _, _, _, rfl⟩)⟩
            simp only [Rel]
            exact ⟨_, _, rfl⟩
          · -- its elements
            have hpe : ∀ i, i < len → ∃ l, W.cells? base (a.add (i * P.cellsOf e)) (P.cellsOf e) = some l ∧ Lays P W n e l := by
              intro i hi
              have := hget i hi
              rw [List.getElem?_eq_getElem (by omega)] at this
              rw [Option.bind_eq_some_iff] at this
              obtain ⟨l, h1, h2⟩ := this
              exact ⟨l, h1, lays hT hL n _ _ _ (kid_slice hL hlt hu) h2⟩
            obtain ⟨pieces, hp1, hp2⟩ : ∃ pieces : List (List Value), pieces.length = len ∧ ∀ i (l : List Value), pieces[i]? = some l → W.cells? base (a.add (i * P.cellsOf e)) (P.cellsOf e) = some l ∧ Lays P W n e l := by
              exact pick_all (fun i l => W.cells? base (a.add (i * P.cellsOf e)) (P.cellsOf e) = some l ∧ Lays P W n e l) len hpe
            have hpl : ∀ l ∈ pieces, l.length = P.cellsOf e ∧ Lays P W n e l := by
              intro l hl
              obtain ⟨i, hi⟩ := List.getElem?_of_mem hl
              obtain ⟨q1, q2⟩ := hp2 i l hi
              exact ⟨(cells_get q1).1, q2⟩
            intro E h s
            obtain ⟨E1, h1, us, a1, a2, a3, a4, a5, a6⟩ := lays_pieces n (P.cellsOf e) e pieces hpl E h s
            have hfl := flatten_len (P.cellsOf e) pieces (fun l hl => (hpl l hl).1)
            have hpos : 0 < len * P.cellsOf e := Nat.mul_pos (by omega) (by omega)
            have hcell : ∀ i, i < pieces.flatten.length → W.cell? (a.add i) = pieces.flatten[i]? := by
              intro q hq
              rw [hfl] at hq
              have hmod : q % P.cellsOf e < P.cellsOf e := Nat.mod_lt _ (by omega)
              have hdiv : q / P.cellsOf e < pieces.length := Nat.div_lt_of_lt_mul (by rw [Nat.mul_comm]; exact hq)
              have hq2 : q / P.cellsOf e * P.cellsOf e + q % P.cellsOf e = q := by rw [Nat.mul_comm]; exact Nat.div_add_mod q _
              rw [← hq2, flatten_get (P.cellsOf e) pieces _ _ (fun l hl => (hpl l hl).1) hdiv hmod, List.getElem?_eq_getElem hdiv]
              obtain ⟨q1, _⟩ := hp2 _ _ (List.getElem?_eq_getElem hdiv)
              have := (cells_get q1).2 _ hmod
              rw [Option.bind_some, ← this]
              congr 1
              unfold Addr.add
              by_cases z1 : q / P.cellsOf e * P.cellsOf e = 0
              · rw [z1]; simp
              · by_cases z2 : q % P.cellsOf e = 0
                · rw [z2]; simp
                · have z3 : ¬ (q / P.cellsOf e * P.cellsOf e + q % P.cellsOf e = 0) := by omega
                  rw [if_neg z1, if_neg z2, if_neg z3]
                  simp [Nat.add_assoc]
            obtain ⟨E2, h2, b, b1, b2, b3, b4, b5, b6, b7⟩ := view_row a3 (cap := cap) (by rw [hfl, hp1]; exact hpos) hcell a4
            refine ⟨E2, h2, [.slice b 0 len cap], a1.trans b1, a2.trans b2, b3, ⟨_, _, rfl, ?_, rfl⟩, rfl, ?_⟩
            · simp only [Rel]
              refine ⟨_, b6, hlc, ?_⟩
              obtain ⟨bl, of', st⟩ := a
              simp only at b5
              subst b5
              rfl
            · simp only [Shp, hu]
              refine .inr (.inr (.inr ⟨b, len, cap, rfl, by omega, hlc, hcm, b4, fun ht => ⟨us, b7 (by rw [a5, hp1]; exact ht), by rw [a5, hp1], fun i hi => Shp.ext b2 _ _ _ (a6 i (by omega))⟩⟩))
      | pointer e =>
        rcases DataW.trod_pointer hu h with ⟨rfl, _⟩ | ⟨a, cs', y, n', hn, rfl, _, hc, hy⟩
        · intro E h s
          exact ⟨E, h, [.nilptr], fun _ _ q => q, Ext.refl h, s, ⟨_, _, rfl, rfl, rfl⟩, rfl, by simp only [Shp, hu]; exact .inl trivial⟩
        · obtain rfl : n = n' := by omega
          by_cases hs : P.cellsOf e = 0
          · refine bads _ fun h' vs _ => ?_
            simp only [Shp, hu]
            exact .inr (.inl hs)
          · intro E h s
            obtain ⟨q1, q2⟩ := cells_get hc
            obtain ⟨E1, h1, us, a1, a2, a3, a4, a5, a6⟩ := lays hT hL n _ _ _ (kid_pointer hL hlt hu) hy E h s
            obtain ⟨E2, h2, b, b1, b2, b3, b4, b5, b6, b7⟩ := view_row a3 (cap := 0) (by omega) (fun i hi => q2 i (by omega)) a4
            refine ⟨E2, h2, [.ptr b 0], a1.trans b1, a2.trans b2, b3, ⟨_, _, rfl, ?_, rfl⟩, rfl, ?_⟩
            · simp only [Rel]
              refine ⟨_, b6, ?_⟩
              obtain ⟨bl, of', st⟩ := a
              simp only at b5
              subst b5
              rfl
            · simp only [Shp, hu]
              exact .inr (.inr ⟨b, rfl, b4, fun ht => ⟨us, b7 (by omega), by omega, Shp.ext b2 _ _ _ a6⟩⟩)
      | map k e =>
        have hcs : cs.length = 1 := by
          unfold DataW.trod at h
          rw [hu] at h
          split at h <;> simp_all
        intro E h s
        refine ⟨E, h, [.bad], fun _ _ q => q, Ext.refl h, s, ?_, by simp [hcs], by simp only [Shp, hu]; exact .inr trivial⟩
        match cs, hcs with
        | [c], _ => exact ⟨c, [], rfl, by simp [Rel], rfl⟩
      | interface ms =>
        have hcs : cs.length = 1 := by
          unfold DataW.trod at h
          rw [hu] at h
          split at h <;> simp_all
        intro E h s
        refine ⟨E, h, [.bad], fun _ _ q => q, Ext.refl h, s, ?_, by simp [hcs], by simp only [Shp, hu]; exact .inr trivial⟩
        match cs, hcs with
        | [c], _ => exact ⟨c, [], rfl, by simp [Rel], rfl⟩
      | _ =>
        refine bads cs fun h' vs _ => ?_
        simp only [Shp, hu]

/-- an argument, as a whole -/
def ShpV (P : Program) (h : Heap) (n : Nat) (t : TypeId) (v : V) : Prop :=
  match P.underlying t with
  | some (.struct _) | some (.array _ _) => ∃ vs, v = .agg vs ∧ Shp P h n t vs
  | _ => Shp P h n t [v]
theorem ShpV.ext {h h' : Heap} (e : Ext h h') {n : Nat} {t : TypeId} {v : V} (H : ShpV P h n t v) : ShpV P h' n t v := by
  unfold ShpV at H ⊢
  split at H
  · obtain ⟨vs, q1, q2⟩ := H
    exact ⟨vs, q1, Shp.ext e _ _ _ q2⟩
  · obtain ⟨vs, q1, q2⟩ := H
    exact ⟨vs, q1, Shp.ext e _ _ _ q2⟩
  · exact Shp.ext e _ _ _ H

theorem lays_arg (hT : tilesB P = true) (hL : laidOutB P = true) {r : Reach} {b0 : Nat} {t : TypeId} {v : Value} {d : DataW H} {p : List MemPlace} (hlt : t < P.types.size) (hok : Value.okWide P W r b0 t v) (hd : DataW.Trod enc P W base sp held t v d p) {E : Env} {h : Heap} (s : Sim ⟨W, fun _ => none⟩ E h W) :
    ∃ n E' h' x, E.le E' ∧ Ext h h' ∧ Sim ⟨W, fun _ => none⟩ E' h' W ∧ Rel E' x v ∧ ShpV P h' n t x := by
  obtain ⟨fuel, hf⟩ := hd
  obtain ⟨E', h', vs, a1, a2, a3, a4, a5, a6⟩ := lays hT hL _ _ _ _ hlt hf E h s
  have agg : (∃ cs, v = .agg cs) → ∃ x, Rel E' x v ∧ x = .agg vs := by
    rintro ⟨cs, rfl⟩
    exact ⟨.agg vs, by simp only [Rel]; exact ⟨cs, rfl, a4⟩, rfl⟩
  have one : v.cells = #[v] → ∃ x, Rel E' x v ∧ vs = [x] := by
    intro hc
    rw [hc] at a4 a5
    match vs, a4, a5 with
    | [x], ⟨y, ys, e1, e2, e3⟩, _ =>
      simp only [List.cons.injEq] at e1
      exact ⟨x, e1.1 ▸ e2, rfl⟩
  refine ⟨fuel, E', h', ?_⟩
  unfold Value.okWide at hok
  cases hu : P.underlying t with
  | none =>
    rw [hu] at hok
    simp only [Cell.okWide, Cell.ok, hu] at hok
  | some u =>
    rw [hu] at hok
    unfold ShpV
    rw [hu]
    cases u <;> simp only at hok ⊢ <;> first
      | (obtain ⟨cs, hv, _⟩ := hok
         obtain ⟨x, q1, q2⟩ := agg ⟨cs, hv⟩
         exact ⟨x, a1, a2, a3, q1, vs, q2, a6⟩)
      | (have hc : v.cells = #[v] := by
           cases v <;> first
             | rfl
             | (simp only [Cell.okWide, Cell.ok, hu] at hok)
         obtain ⟨x, q1, q2⟩ := one hc
         exact ⟨x, a1, a2, a3, q1, q2 ▸ a6⟩)

def ShpL (P : Program) (h : Heap) : List TypeId → List V → Prop
  | [], [] => True
  | t :: ts, v :: vs => (∃ n, ShpV P h n t v) ∧ ShpL P h ts vs
  | _, _ => False
theorem ShpL.ext {h h' : Heap} (e : Ext h h') : ∀ {ts : List TypeId} {vs : List V}, ShpL P h ts vs → ShpL P h' ts vs
  | [], [], H => H
  | [], _ :: _, H => H.elim
  | _ :: _, [], H => H.elim
  | t :: ts, v :: vs, ⟨⟨n, H⟩, H'⟩ => ⟨⟨n, H.ext e⟩, ShpL.ext e H'⟩

theorem lays_args (hT : tilesB P = true) (hL : laidOutB P = true) {r : Reach} {b0 : Nat} : ∀ {ts : List TypeId} {vs : List Value} {ds : List (DataW H)} {p : List MemPlace}, (∀ t ∈ ts, t < P.types.size) → (∀ (j : Nat) t v, ts[j]? = some t → vs[j]? = some v → Value.okWide P W r b0 t v) →
    DataW.TrodAll enc P W base sp held ts vs ds p → ∀ {E : Env} {h : Heap}, Sim ⟨W, fun _ => none⟩ E h W → ∃ E' h' xs, E.le E' ∧ Ext h h' ∧ Sim ⟨W, fun _ => none⟩ E' h' W ∧ RelL E' xs vs ∧ ShpL P h' ts xs
  | [], [], ds, p, _, _, _, E, h, s => ⟨E, h, [], fun _ _ q => q, Ext.refl h, s, rfl, trivial⟩
  | [], _ :: _, ds, p, _, _, hd, E, h, s => by cases ds <;> exact hd.elim
  | _ :: _, [], ds, p, _, _, hd, E, h, s => by cases ds <;> exact hd.elim
  | _ :: _, _ :: _, [], p, _, _, hd, E, h, s => hd.elim
  | t :: ts, v :: vs, d :: ds, p, ht, hv, ⟨p1, p2, h1, h2, _⟩, E, h, s => by
    obtain ⟨n, E1, g1, x, a1, a2, a3, a4, a5⟩ := lays_arg hT hL (ht t (by simp)) (hv 0 t v rfl rfl) h1 s
    obtain ⟨E2, g2, xs, b1, b2, b3, b4, b5⟩ := lays_args hT hL (fun t q => ht t (by simp [q])) (fun j t v q1 q2 => hv (j + 1) t v (by simpa using q1) (by simpa using q2)) h2 a3
    exact ⟨E2, g2, x :: xs, a1.trans b1, a2.trans b2, b3, ⟨_, _, rfl, Rel.mono b1 _ _ a4, b4⟩, ⟨n, a5.ext b2⟩, b5⟩

/-- A CALL OF WHAT WAS HANDED IN: if the machine answers true, whatever the arguments of these types, the program does, and turns nothing that was there. -/
theorem call_true (hT : tilesB P = true) (hL : laidOutB P = true) {r : Reach} {b0 : Nat} {f : FuncId} {ts : List TypeId} {vs : List Value} {ds : List (DataW H)} {p : List MemPlace} (hts : ∀ t ∈ ts, t < P.types.size) (hv : ∀ (j : Nat) t v, ts[j]? = some t → vs[j]? = some v → Value.okWide P W r b0 t v)
    (hd : DataW.TrodAll enc P W base sp held ts vs ds p) (hc : ∀ (h : Heap) (xs : List V), ShpL P h ts xs → Ctr P f xs h fun y _ => y = .bool true) :
    Calls P f vs.toArray W fun e w' => e = .returned (.bool true) ∧ Below W.heap.size W w' := by
  obtain ⟨E, h, xs, _, _, a3, a4, a5⟩ := lays_args hT hL hts hv hd (sim_empty W)
  obtain ⟨y, h', hc', rfl⟩ := hc h xs a5
  refine (hc'.2 _ E W vs a4 a3).mono fun e w' q => ?_
  obtain ⟨E', x, rfl, _, q2, q3⟩ := q
  simp only [Rel] at q2
  subst q2
  exact ⟨rfl, q3.frame⟩
end
end Go.Proofs.Ytkjifhoiiciblaa.Am

namespace Go.Proofs.Ytkjifhoiiciblaa.Am
open Go Go.RowKit
set_option linter.unusedVariables false

/-! Opening what was handed in. -/
theorem collect {α : Type} (enc : α → List V) (size : Nat) (Q : α → Prop) : ∀ (len : Nat) (us : List V), us.length = len * size → (∀ i, i < len → ∃ a, (us.drop (i * size)).take size = enc a ∧ Q a) →
    ∃ as : List α, as.length = len ∧ us = as.flatMap enc ∧ ∀ a ∈ as, Q a
  | 0, us, hl, _ => ⟨[], rfl, by simpa using hl, fun a h => by simp at h⟩
  | len + 1, us, hl, h => by
    obtain ⟨a, h1, h2⟩ := h 0 (by omega)
    rw [Nat.add_mul, Nat.one_mul] at hl
    obtain ⟨as, g1, g2, g3⟩ := collect enc size Q len (us.drop size) (by rw [List.length_drop]; omega) (fun i hi => by
      obtain ⟨b, k1, k2⟩ := h (i + 1) (by omega)
      refine ⟨b, ?_, k2⟩
      rw [List.drop_drop, ← k1, Nat.add_mul, Nat.one_mul, Nat.add_comm])
    refine ⟨a :: as, by simp [g1], ?_, fun b hb => ?_⟩
    · rw [List.flatMap_cons, ← g2, ← h1, Nat.zero_mul, List.drop_zero, List.take_append_drop]
    · rcases List.mem_cons.1 hb with rfl | hb
      · exact h2
      · exact g3 b hb

section
variable {P : Program} {h : Heap} {n : Nat} {t : TypeId}

theorem Shp.pos {vs : List V} (H : Shp P h n t vs) : ∃ m, n = m + 1 := by
  cases n with
  | zero => exact H.elim
  | succ m => exact ⟨m, rfl⟩
theorem Shp.bool {vs : List V} (H : Shp P h n t vs) (hu : P.underlying t = some .bool) : ∃ b, vs = [.bool b] := by
  obtain ⟨m, rfl⟩ := H.pos
  simpa only [Shp, hu] using H
theorem Shp.int {vs : List V} {k : IntKind} (H : Shp P h n t vs) (hu : P.underlying t = some (.int k)) : ∃ i, vs = [.int k i] ∧ (Lit.int k i).wf = true := by
  obtain ⟨m, rfl⟩ := H.pos
  simpa only [Shp, hu] using H
theorem Shp.str {vs : List V} (H : Shp P h n t vs) (hu : P.underlying t = some .string) : ∃ s : List UInt8, vs = [.str s] ∧ s.length ≤ maxLen := by
  obtain ⟨m, rfl⟩ := H.pos
  simpa only [Shp, hu] using H
theorem Shp.struct {vs : List V} {fs : Array Field} (H : Shp P h n t vs) (hu : P.underlying t = some (.struct fs)) : ∃ m, n = m + 1 ∧ vs.length = P.cellsOf t ∧ ∀ f ∈ fs.toList, Shp P h m f.type ((vs.drop f.offset).take (P.cellsOf f.type)) := by
  obtain ⟨m, rfl⟩ := H.pos
  refine ⟨m, rfl, ?_⟩
  simpa only [Shp, hu] using H

/-- a slice that was handed in -/
def Sld (h : Heap) (size : Nat) (v : V) (len : Nat) (Q : List V → Prop) : Prop :=
  v.one = true ∧ v.cells = [v] ∧ v.good = true ∧ lenSl v = some (.int .i64 len) ∧ len ≤ maxLen ∧ (len * size ≤ top → ∃ us, SlV h size v len us ∧ ∀ i, i < len → Q ((us.drop (i * size)).take size))

theorem Shp.slice {vs : List V} {e : TypeId} (H : Shp P h n t vs) (hu : P.underlying t = some (.slice e)) (hs : P.cellsOf e ≠ 0) : ∃ m v len, n = m + 1 ∧ vs = [v] ∧ Sld h (P.cellsOf e) v len (Shp P h m e) := by
  obtain ⟨m, rfl⟩ := H.pos
  simp only [Shp, hu] at H
  rcases H with rfl | ⟨b, i, j, k, rfl⟩ | q | ⟨b, len, cap, rfl, h1, h2, h3, h4, h5⟩
  · exact ⟨m, _, 0, rfl, rfl, rfl, rfl, rfl, rfl, Nat.zero_le _, fun _ => ⟨[], ⟨by simp, rfl⟩, fun i hi => by omega⟩⟩
  · exact ⟨m, _, 0, rfl, rfl, rfl, rfl, rfl, rfl, Nat.zero_le _, fun _ => ⟨[], ⟨by simp, rfl⟩, fun i hi => by omega⟩⟩
  · exact absurd q hs
  · refine ⟨m, _, len, rfl, rfl, rfl, rfl, rfl, rfl, by omega, fun q => ?_⟩
    obtain ⟨us, k1, k2, k3⟩ := h5 q
    exact ⟨us, ⟨k2, rfl, h4, us, k1, by omega, by simp⟩, k3⟩
end
end Go.Proofs.Ytkjifhoiiciblaa.Am

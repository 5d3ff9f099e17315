/- The abstract machine and its walks (a verified interpreter of the model's code: plain definitions and lemmas, no condition). -/
import Derived.Test.YtjbiefneffiogaaGreatM4
import Derived.ChangeArms
import Derived.DataReads
import Derived.ChangeBears
import Derived.Carry
import Derived.OpenShut
import Derived.ChangeSame
import Derived.Handed
import Derived.HandedShaped
import Derived.Test.YtjbiefneffiogaaGreatM2
import Derived.Shelf.SlIterI.Sorted
import Derived.Shelf.SlIterI.Nil
import Derived.WideShapes
set_option linter.unusedSectionVars false
set_option linter.unusedSimpArgs false
set_option linter.unusedVariables false

namespace Go.Proofs.YtjbiefneffiogaaGreat.Am
variable [Lay]
open Go Go.RowKit
theorem Sim.below {w0 : Fr} {E : Env} {h : Heap} {w w' : World} (s : Sim w0 E h w) (hb : Below w.heap.size w w') : Sim w0 E h w' := by
  have hsz : w0.w.heap.size ≤ w.heap.size := s.frame.size
  have keep : ∀ (k : Nat) (o : Obj), w.heap[k]? = some o → w'.heap[k]? = some o := by
    intro k o hk
    rw [hb.block k, hk]
    by_cases hlt : k < w.heap.size
    · exact hlt
    · rw [Array.getElem?_eq_none (by omega)] at hk
      cases hk
  refine ⟨fun b hp => ?_, s.pen, s.inj, s.fresh, s.frame.trans (hb.mono hsz), s.laid, s.base⟩
  have := s.blk b hp
  cases hk : h.get b <;> rw [hk] at this <;> simp only [BlkRel] at this ⊢
  · obtain ⟨q1, p, c, el, fz, q2, q3, q4, q5⟩ := this
    exact ⟨q1, p, c, el, fz, q2, q3, keep _ _ q4, q5⟩
  · obtain ⟨q1, p, c, el, fz, q2, q3, q4, q5⟩ := this
    exact ⟨q1, p, c, el, fz, q2, q3, keep _ _ q4, q5⟩
  · obtain ⟨p, q1, q2, q3, q4⟩ := this
    exact ⟨p, q1, q2, q3, keep _ _ q4⟩
  · obtain ⟨p, a, q1, q2, q3, q4⟩ := this
    exact ⟨p, a, q1, q2, keep _ _ q3, q4⟩
theorem closed_callsV {P : Program} {f : FuncId} {v : V} (hv : ∀ E x, x = .bool true → Rel E v x) (hfn : ∃ fn, P.funcs[f]? = some fn ∧ fn.body.isSome = true) (H : ∀ w, Lay.ok w → Calls P f #[] w fun e w' => e = .returned (.bool true) ∧ Below w.heap.size w w') (h : Heap) :
    CallsV P f [] h v h := by
  refine .inl ⟨hfn, fun w0 E w xs hx s => ?_⟩
  simp only [RelL] at hx
  subst hx
  refine (H w (Lay.keep s.laid s.frame)).mono fun e w' q => ?_
  obtain ⟨rfl, hb⟩ := q
  exact ⟨E, _, rfl, fun _ _ q => q, hv E _ rfl, s.below hb⟩
noncomputable def viewE (E : Env) (h : Heap) (p : Pl) : Env := fun b => if b = pa h.next then some p else E b
theorem viewE_self (E : Env) (h : Heap) (p : Pl) : viewE E h p (pa h.next) = some p := if_pos rfl
theorem viewE_le {w0 : Fr} {E : Env} {h : Heap} {w : World} (s : Sim w0 E h w) (p : Pl) : E.le (viewE E h p) := fun b q hq => by
  unfold viewE
  rw [if_neg (fun e => by rw [e, s.fresh _ (Nat.le_refl _)] at hq; cases hq)]
  exact hq
theorem sim_new {W : World} {E : Env} {h : Heap} (s : Sim ⟨W, fun _ => none⟩ E h W) (p : Pl) (k : Blk) (ho : k.own = false) (hk : BlkRel W.heap.size (viewE E h p) W (pa h.next) k) :
    Sim ⟨W, fun _ => none⟩ (viewE E h p) (h.new k) W := by
  refine ⟨fun b _ => ?_, fun _ _ h => (by cases h), fun b b' q q' h1 h2 e1 e2 hq => ?_, fun i hi => ?_, s.frame, s.laid, fun b q n cs st h1 e1 => by
    rw [get_new] at h1
    by_cases c1 : pa h.next = b
    · rw [if_pos c1] at h1; rw [h1] at ho; cases ho
    · rw [if_neg c1] at h1
      unfold viewE at e1
      rw [if_neg (fun e => c1 e.symm)] at e1
      exact s.base _ _ _ _ _ h1 e1⟩
  · rw [get_new]
    by_cases e : pa h.next = b
    · subst e
      rw [if_pos rfl]
      exact hk
    · rw [if_neg e]
      exact (s.blk b rfl).mono (viewE_le s p)
  · rw [get_new] at h1 h2
    by_cases c1 : pa h.next = b
    · rw [if_pos c1, ho] at h1; cases h1
    · by_cases c2 : pa h.next = b'
      · rw [if_pos c2, ho] at h2; cases h2
      · rw [if_neg c1] at h1
        rw [if_neg c2] at h2
        unfold viewE at e1 e2
        rw [if_neg (fun e => c1 e.symm)] at e1
        rw [if_neg (fun e => c2 e.symm)] at e2
        exact s.inj b b' q q' h1 h2 e1 e2 hq
  · rw [next_new] at hi
    unfold viewE
    rw [if_neg (fun e => by have := pa_inj e; omega)]
    exact s.fresh i (by omega)
theorem sim_view {W : World} {E : Env} {h : Heap} (s : Sim ⟨W, fun _ => none⟩ E h W) {k base cap : Nat} {c : Array Value} {el : TypeId} {fz : Nat × Nat} (hk : W.heap[k]? = some (.cells c el fz)) {vs : List V}
    (hc : base + vs.length ≤ c.size) (hr : ∀ i v y, vs[i]? = some v → c[base + i]? = some y → Rel E v y) :
    Sim ⟨W, fun _ => none⟩ (viewE E h ⟨k, base, cap⟩) (h.new (.ro vs)) W := by
  refine sim_new s _ _ rfl ?_
  have hlt : k < W.heap.size := by
    by_cases hlt : k < W.heap.size
    · exact hlt
    · rw [Array.getElem?_eq_none (by omega)] at hk
      cases hk
  refine ⟨trivial, ⟨k, base, cap⟩, c, el, fz, viewE_self _ _ _, hlt, hk, hc, fun i y hi hy => ?_⟩
  have : T.get .bad (pa i) (puts .e 0 vs) = vs[i] := by
    have := get_puts vs 0 i .e
    rw [Nat.zero_add] at this
    rw [this, if_pos hi, List.getElem?_eq_getElem hi]
    rfl
  rw [this]
  exact Rel.mono (viewE_le s _) _ _ (hr i _ y (List.getElem?_eq_getElem hi) hy)
end Go.Proofs.YtjbiefneffiogaaGreat.Am

namespace Go.Proofs.YtjbiefneffiogaaGreat.Am
variable [Lay]
open Go Go.RowKit
section
variable (P : Program)
def tiles : List Field → Nat → Option Nat
  | [], o => some o
  | f :: fs, o => if f.offset = o then tiles fs (o + P.cellsOf f.type) else none
def tilesB : Bool := (List.range P.types.size).all fun t => match P.underlying t with
  | some (.struct fs) => decide (tiles P fs.toList 0 = some (P.cellsOf t))
  | _ => true
def Shp (h : Heap) : Nat → Nat → TypeId → List V → Prop
  | 0, _, _, _ => False
  | n + 1, m, t, vs => match P.underlying t with
    | some .bool => ∃ b, vs = [.bool b]
    | some (.int k) => ∃ i, vs = [.int k i] ∧ (Lit.int k i).wf = true
    | some .string => ∃ s : List UInt8, vs = [.str s] ∧ s.length + 1 ≤ m
    | some (.slice e) => 1 ≤ m ∧ (vs = [.nilslice] ∨ (∃ b i j k, vs = [.tslice b i j k]) ∨ P.cellsOf e = 0 ∨
        ∃ b len cap, vs = [.slice b 0 len cap] ∧ 0 < len ∧ len ≤ cap ∧ Old h b ∧ ∃ us, Rd h b us ∧ us.length = len * P.cellsOf e ∧ ∃ ms : List Nat, ms.length = len ∧ ms.sum + 1 ≤ m ∧
          ∀ (i k : Nat), ms[i]? = some k → 1 ≤ k ∧ Shp h n k e ((us.drop (i * P.cellsOf e)).take (P.cellsOf e)))
    | some (.struct fs) => vs.length = P.cellsOf t ∧ ∃ ms : List Nat, ms.length = fs.toList.length ∧ ms.sum + 1 ≤ m ∧ ∀ (i : Nat) (f : Field) (k : Nat), fs.toList[i]? = some f → ms[i]? = some k → 1 ≤ k ∧ Shp h n k f.type ((vs.drop f.offset).take (P.cellsOf f.type))
    | some (.pointer e) => 1 ≤ m ∧ (vs = [.nilptr] ∨ P.cellsOf e = 0 ∨ ∃ b, vs = [.ptr b 0] ∧ Old h b ∧ ∃ us, Rd h b us ∧ us.length = P.cellsOf e ∧ ∃ k, k + 1 ≤ m ∧ Shp h n k e us)
    | some (.map _ _) => vs = [.nilmap] ∨ vs = [.bad]
    | some (.interface _) => vs = [.nilIface] ∨ vs = [.bad]
    | _ => True
end
theorem Shp.ext {P : Program} {h h' : Heap} (e : Ext h h') : ∀ (n m : Nat) (t : TypeId) (vs : List V), Shp P h n m t vs → Shp P h' n m t vs
  | 0, _, _, _, H => H
  | n + 1, m, t, vs, H => by
    unfold Shp at H ⊢
    split at H <;> try exact H
    · refine ⟨H.1, ?_⟩
      rcases H.2 with H | H | H | ⟨b, len, cap, h1, h2, h3, h5, us, k1, k2, ms, k3, k4, k5⟩
      · exact .inl H
      · exact .inr (.inl H)
      · exact .inr (.inr (.inl H))
      · exact .inr (.inr (.inr ⟨b, len, cap, h1, h2, h3, e.old h5, us, e.rd h5 k1, k2, ms, k3, k4, fun i k hk => ⟨(k5 i k hk).1, Shp.ext e n _ _ _ (k5 i k hk).2⟩⟩))
    · obtain ⟨h1, ms, h2, h3, h4⟩ := H
      exact ⟨h1, ms, h2, h3, fun i f k hf hk => ⟨(h4 i f k hf hk).1, Shp.ext e n _ _ _ (h4 i f k hf hk).2⟩⟩
    · refine ⟨H.1, ?_⟩
      rcases H.2 with H | H | ⟨b, h1, h5, us, k1, k2, k, k3, k4⟩
      · exact .inl H
      · exact .inr (.inl H)
      · exact .inr (.inr ⟨b, h1, e.old h5, us, e.rd h5 k1, k2, k, k3, Shp.ext e n _ _ _ k4⟩)
mutual
def bulk {H : Type} : DataW H → Nat
  | .lit (.string bytes) => bytes.length + 1
  | .lit _ => 1
  | .nil => 1
  | .ptr d => bulk d + 1
  | .slice elems spare => bulkAll elems + bulkAll spare + 1
  | .agg parts => bulkAll parts + 1
  | .iface _ d => bulk d + 1
  | .map entries => bulkEntries entries + 1
  | .held _ => 1
def bulkAll {H : Type} : List (DataW H) → Nat
  | [] => 0
  | d :: r => bulk d + bulkAll r
def bulkEntries {H : Type} : List (Lit × DataW H) → Nat
  | [] => 0
  | x :: r => bulkEntry x + bulkEntries r
def bulkEntry {H : Type} : Lit × DataW H → Nat
  | (.string bytes, d) => bytes.length + bulk d + 1
  | (_, d) => bulk d + 1
end
theorem bulk_pos {H : Type} (d : DataW H) : 1 ≤ bulk d := by
  cases d with
  | lit l => cases l <;> simp [bulk]
  | _ => simp [bulk]
theorem bulkAll_sum {H : Type} : ∀ l : List (DataW H), bulkAll l = (l.map bulk).sum
  | [] => by simp [bulkAll]
  | d :: r => by simp only [bulkAll, List.map_cons, List.sum_cons, bulkAll_sum r]
theorem cells_get {w : World} {base : Nat} {a : Addr} {n : Nat} {l : List Value} (h : w.cells? base a n = some l) : l.length = n ∧ ∀ i, i < n → w.cell? (a.add i) = l[i]? := by
  unfold World.cells? at h
  split at h
  · exact ⟨by simpa using mapM_some_length h, fun i hi => mapM_some_get h i i (by simp [hi])⟩
  · cases h
theorem relL_mono {E E' : Env} (he : E.le E') {vs : List V} {l : List Value} (H : RelL E vs l) : RelL E' vs l := RelL.mono he vs l H
section
variable {H : Type} {enc : TypeId × Value → H} {P : Program} {W : World} {base : Nat} {sp : Nat → Bool} {held : Bool}
def Lays (P : Program) (W : World) (n m : Nat) (t : TypeId) (cs : List Value) : Prop :=
  ∀ (E : Env) (h : Heap), Sim ⟨W, fun _ => none⟩ E h W → ∃ E' h' vs, E.le E' ∧ Ext h h' ∧ Sim ⟨W, fun _ => none⟩ E' h' W ∧ RelL E' vs cs ∧ vs.length = cs.length ∧ Shp P h' n m t vs
theorem lays_pieces (n size : Nat) (e : TypeId) : ∀ (pieces : List (List Value)) (ms : List Nat), ms.length = pieces.length → (∀ (i : Nat) (l : List Value) (k : Nat), pieces[i]? = some l → ms[i]? = some k → l.length = size ∧ Lays P W n k e l) →
    ∀ (E : Env) (h : Heap), Sim ⟨W, fun _ => none⟩ E h W → ∃ E' h' us, E.le E' ∧ Ext h h' ∧ Sim ⟨W, fun _ => none⟩ E' h' W ∧ RelL E' us pieces.flatten ∧ us.length = pieces.length * size ∧
      ∀ (i k : Nat), ms[i]? = some k → Shp P h' n k e ((us.drop (i * size)).take size)
  | [], [], _, _, E, h, s => ⟨E, h, [], fun _ _ q => q, Ext.refl h, s, rfl, by simp, fun i k hi => by simp at hi⟩
  | [], _ :: _, hl, _, _, _, _ => by simp at hl
  | _ :: _, [], hl, _, _, _, _ => by simp at hl
  | l :: ls, m :: ms, hlm, hp, E, h, s => by
    obtain ⟨hl, H⟩ := hp 0 l m rfl rfl
    obtain ⟨E1, h1, vs, a1, a2, a3, a4, a5, a6⟩ := H E h s
    obtain ⟨E2, h2, us, b1, b2, b3, b4, b5, b6⟩ := lays_pieces n size e ls ms (by simpa using hlm) (fun i l k q1 q2 => hp (i + 1) l k (by simpa using q1) (by simpa using q2)) E1 h1 a3
    refine ⟨E2, h2, vs ++ us, a1.trans b1, a2.trans b2, b3, ?_, ?_, ?_⟩
    · rw [List.flatten_cons]
      exact RelL.append (relL_mono b1 a4) b4
    · rw [List.length_append, b5, a5, hl, List.length_cons, Nat.add_mul]
      omega
    · intro i k hi
      cases i with
      | zero =>
        rw [Nat.zero_mul, List.drop_zero, List.take_left' (by rw [a5, hl])]
        simp only [List.getElem?_cons_zero, Option.some.injEq] at hi
        subst hi
        exact Shp.ext b2 _ _ _ _ a6
      | succ i =>
        rw [Nat.add_mul, Nat.one_mul, Nat.add_comm, ← List.drop_drop, List.drop_left' (by rw [a5, hl])]
        exact b6 i k (by simpa using hi)
theorem lays_fields (n : Nat) : ∀ (fs : List Field) (ms : List Nat) (o o' : Nat) (cs : List Value), tiles P fs o = some o' → cs.length = o' → ms.length = fs.length → (∀ (i : Nat) (f : Field) (k : Nat), fs[i]? = some f → ms[i]? = some k → Lays P W n k f.type ((cs.drop f.offset).take (P.cellsOf f.type))) →
    o ≤ o' ∧ ∀ (E : Env) (h : Heap), Sim ⟨W, fun _ => none⟩ E h W → ∃ E' h' vs, E.le E' ∧ Ext h h' ∧ Sim ⟨W, fun _ => none⟩ E' h' W ∧ RelL E' vs (cs.drop o) ∧ vs.length = o' - o ∧
      ∀ (i : Nat) (f : Field) (k : Nat), fs[i]? = some f → ms[i]? = some k → o ≤ f.offset ∧ Shp P h' n k f.type ((vs.drop (f.offset - o)).take (P.cellsOf f.type))
  | [], _ :: _, _, _, _, _, _, hlm, _ => by simp at hlm
  | _ :: _, [], _, _, _, _, _, hlm, _ => by simp at hlm
  | [], [], o, o', cs, ht, hl, _, _ => by
    simp only [tiles, Option.some.injEq] at ht
    subst ht
    refine ⟨Nat.le_refl _, fun E h s => ⟨E, h, [], fun _ _ q => q, Ext.refl h, s, ?_, by simp, fun i f k hf => by simp at hf⟩⟩
    rw [List.drop_eq_nil_of_le (by omega)]
    rfl
  | f :: fs, m :: ms, o, o', cs, ht, hl, hlm, hp => by
    simp only [tiles] at ht
    by_cases hf : f.offset = o
    · rw [if_pos hf] at ht
      obtain ⟨g1, g2⟩ := lays_fields n fs ms (o + P.cellsOf f.type) o' cs ht hl (by simpa using hlm) (fun i f k q1 q2 => hp (i + 1) f k (by simpa using q1) (by simpa using q2))
      refine ⟨by omega, fun E h s => ?_⟩
      have hpf := hp 0 f m rfl rfl
      obtain ⟨E1, h1, vs, a1, a2, a3, a4, a5, a6⟩ := hpf E h s
      obtain ⟨E2, h2, us, b1, b2, b3, b4, b5, b6⟩ := g2 E1 h1 a3
      have hvl : vs.length = P.cellsOf f.type := by rw [a5, List.length_take, List.length_drop, hf]; omega
      refine ⟨E2, h2, vs ++ us, a1.trans b1, a2.trans b2, b3, ?_, ?_, ?_⟩
      · have e : cs.drop o = (cs.drop f.offset).take (P.cellsOf f.type) ++ cs.drop (o + P.cellsOf f.type) := by
          rw [hf, ← List.drop_drop, List.take_append_drop]
        rw [e]
        exact RelL.append (relL_mono b1 a4) b4
      · rw [List.length_append, hvl, b5]
        omega
      · intro i g k hg hk
        cases i with
        | zero =>
          simp only [List.getElem?_cons_zero, Option.some.injEq] at hg hk
          subst hg hk
          refine ⟨by omega, ?_⟩
          rw [hf, Nat.sub_self, List.drop_zero, List.take_left' hvl]
          exact Shp.ext b2 _ _ _ _ a6
        | succ i =>
          obtain ⟨c1, c2⟩ := b6 i g k (by simpa using hg) (by simpa using hk)
          refine ⟨by omega, ?_⟩
          rw [show g.offset - o = P.cellsOf f.type + (g.offset - (o + P.cellsOf f.type)) from by omega, ← List.drop_drop, List.drop_left' hvl]
          exact c2
    · rw [if_neg hf] at ht
      cases ht
theorem cell_some {w : World} {a : Addr} {y : Value} (h : w.cell? a = some y) : a.spot = none ∧ ∃ c el fz, w.heap[a.block]? = some (.cells c el fz) ∧ c[a.off]? = some y := by
  refine ⟨World.cell?_spot h, ?_⟩
  unfold World.cell? at h
  split at h
  · rename_i c el fz hh
    split at h
    · cases h
    · exact ⟨c, el, fz, hh, h⟩
  · cases h
theorem add_block (a : Addr) (n : Nat) : (a.add n).block = a.block := by unfold Addr.add; split <;> rfl
theorem add_off (a : Addr) (n : Nat) : (a.add n).off = a.off + n := by unfold Addr.add; split <;> simp_all
theorem row_cells {w : World} {a : Addr} {l : List Value} (h0 : 0 < l.length) (h : ∀ i, i < l.length → w.cell? (a.add i) = l[i]?) :
    a.spot = none ∧ ∃ c el fz, w.heap[a.block]? = some (.cells c el fz) ∧ a.off + l.length ≤ c.size ∧ ∀ i, i < l.length → c[a.off + i]? = l[i]? := by
  have hc0 : w.cell? (a.add 0) = some l[0] := by rw [h 0 h0]; exact List.getElem?_eq_getElem h0
  obtain ⟨s1, c, el, fz, s2, s3⟩ := cell_some hc0
  have e0 : a.add 0 = a := by unfold Addr.add; simp
  rw [e0] at s1 s2 s3
  have key : ∀ i, i < l.length → c[a.off + i]? = l[i]? := by
    intro i hi
    have q := h i hi
    rw [List.getElem?_eq_getElem hi] at q ⊢
    obtain ⟨_, c', el', fz', t2, t3⟩ := cell_some q
    rw [add_block, s2] at t2
    rw [add_off] at t3
    simp only [Option.some.injEq, Obj.cells.injEq] at t2
    obtain ⟨rfl, _, _⟩ := t2
    exact t3
  refine ⟨s1, c, el, fz, s2, ?_, key⟩
  have := key (l.length - 1) (by omega)
  rw [List.getElem?_eq_getElem (by omega)] at this
  have hlt := (Array.getElem?_eq_some_iff.1 this).1
  omega
theorem view_row {E : Env} {h : Heap} (s : Sim ⟨W, fun _ => none⟩ E h W) {a : Addr} {cap : Nat} {l : List Value} (h0 : 0 < l.length) (hc : ∀ i, i < l.length → W.cell? (a.add i) = l[i]?) {us : List V} (hr : RelL E us l) :
    ∃ E' h' b, E.le E' ∧ Ext h h' ∧ Sim ⟨W, fun _ => none⟩ E' h' W ∧ Old h' b ∧ a.spot = none ∧ E' b = some ⟨a.block, a.off, cap⟩ ∧ Rd h' b us := by
  obtain ⟨s1, c, el, fz, s2, s3, s4⟩ := row_cells h0 hc
  have hul : us.length = l.length := (RelL.length hr).symm
  refine ⟨viewE E h ⟨a.block, a.off, cap⟩, h.new (.ro us), pa h.next, viewE_le s _, (Ext.refl h).new _, sim_view s s2 (by omega) fun i v y hv hy => ?_, old_self, s1, viewE_self _ _ _, .inl (get_new_self _)⟩
  have hi : i < l.length := by
    have := (List.getElem?_eq_some_iff.1 hv).1
    omega
  rw [s4 i hi] at hy
  obtain ⟨y', e1, e2⟩ := RelL.get hr i v hv
  rw [hy] at e1
  simp only [Option.some.injEq] at e1
  rw [e1]
  exact e2
theorem flatten_get {α : Type} (size : Nat) : ∀ (pieces : List (List α)) (i j : Nat), (∀ l ∈ pieces, l.length = size) → i < pieces.length → j < size → pieces.flatten[i * size + j]? = (pieces[i]?).bind (·[j]?)
  | [], i, j, _, hi, _ => by simp at hi
  | l :: ls, i, j, hp, hi, hj => by
    have hl : l.length = size := hp l (by simp)
    cases i with
    | zero =>
      rw [Nat.zero_mul, Nat.zero_add, List.flatten_cons, List.getElem?_append_left (by omega)]
      simp
    | succ i =>
      rw [List.flatten_cons, List.getElem?_append_right (by rw [hl, Nat.add_mul]; omega)]
      rw [show (i + 1) * size + j - l.length = i * size + j from by rw [hl, Nat.add_mul]; omega]
      rw [flatten_get size ls i j (fun l hl => hp l (by simp [hl])) (by simpa using hi) hj]
      simp
theorem flatten_len {α : Type} (size : Nat) : ∀ (pieces : List (List α)), (∀ l ∈ pieces, l.length = size) → pieces.flatten.length = pieces.length * size
  | [], _ => by simp
  | l :: ls, hp => by
    rw [List.flatten_cons, List.length_append, flatten_len size ls (fun l hl => hp l (by simp [hl])), hp l (by simp), List.length_cons, Nat.add_mul]
    omega
theorem pick_all {α : Type} (R : Nat → α → Prop) : ∀ (len : Nat), (∀ i, i < len → ∃ l, R i l) → ∃ ps : List α, ps.length = len ∧ ∀ i l, ps[i]? = some l → R i l
  | 0, _ => ⟨[], rfl, fun i l q => by simp at q⟩
  | m + 1, h => by
    obtain ⟨ps, q1, q2⟩ := pick_all R m (fun i hi => h i (by omega))
    obtain ⟨l, h1⟩ := h m (by omega)
    refine ⟨ps ++ [l], by simp [q1], fun i l' hl' => ?_⟩
    by_cases hi : i < ps.length
    · rw [List.getElem?_append_left hi] at hl'
      exact q2 i l' hl'
    · rw [List.getElem?_append_right (by omega)] at hl'
      have e0 : i - ps.length = 0 := by
        by_cases q : i - ps.length = 0
        · exact q
        · rw [List.getElem?_eq_none (by simp; omega)] at hl'
          cases hl'
      rw [e0] at hl'
      simp at hl'
      subst hl'
      obtain rfl : i = m := by omega
      exact h1
theorem lays (hT : tilesB P = true) (hL : laidOutB P = true) : ∀ (n : Nat) (t : TypeId) (cs : List Value) (x : DataW H × List MemPlace), t < P.types.size → DataW.trod enc P W base sp held n t cs = some x → Lays P W n (bulk x.1) t cs
  | 0, t, cs, x, _, h => by simp [DataW.trod] at h
  | n + 1, t, cs, x, hlt, h => by
    have bads : ∀ (cs : List Value), (∀ h' vs, vs.length = cs.length → Shp P h' (n + 1) (bulk x.1) t vs) → Lays P W (n + 1) (bulk x.1) t cs := by
      intro cs H E h s
      refine ⟨E, h, cs.map fun _ => .bad, fun _ _ q => q, Ext.refl h, s, ?_, by simp, H _ _ (by simp)⟩
      clear H
      induction cs with
      | nil => rfl
      | cons c cs ih => exact ⟨c, cs, rfl, by simp [Rel], ih⟩
    cases hu : P.underlying t with
    | none =>
      refine bads cs fun h' vs _ => ?_
      simp only [Shp, hu]
    | some u =>
      cases u with
      | bool =>
        obtain ⟨b, rfl, _⟩ := DataW.trod_bool hu h
        intro E h s
        exact ⟨E, h, [.bool b], fun _ _ q => q, Ext.refl h, s, ⟨_, _, rfl, rfl, rfl⟩, rfl, by simp only [Shp, hu]; exact ⟨b, rfl⟩⟩
      | int k =>
        obtain ⟨i, rfl, _, hw⟩ := DataW.trod_int hu h
        intro E h s
        exact ⟨E, h, [.int k i], fun _ _ q => q, Ext.refl h, s, ⟨_, _, rfl, rfl, rfl⟩, rfl, by simp only [Shp, hu]; exact ⟨i, rfl, hw⟩⟩
      | string =>
        obtain ⟨b, rfl, rfl, _⟩ := DataW.trod_string hu h
        intro E h s
        exact ⟨E, h, [.str b.data.toList], fun _ _ q => q, Ext.refl h, s, ⟨_, _, rfl, rfl, rfl⟩, rfl, by simp only [Shp, hu, bulk]; exact ⟨_, rfl, Nat.le_refl _⟩⟩
      | struct fs =>
        obtain ⟨xs, n', hn, rfl, hl, hxl, hf⟩ := DataW.trod_struct hu h
        obtain rfl : n = n' := by omega
        have htile : tiles P fs.toList 0 = some (P.cellsOf t) := by
          unfold tilesB at hT
          rw [List.all_eq_true] at hT
          have := hT t (List.mem_range.2 hlt)
          rw [hu] at this
          exact of_decide_eq_true this
        have hfl : ∀ (i : Nat) (f : Field) (k : Nat), fs.toList[i]? = some f → (xs.map fun x => bulk x.1)[i]? = some k → Lays P W n k f.type ((cs.drop f.offset).take (P.cellsOf f.type)) := by
          intro i f k hi hk
          have hf' : f ∈ fs.toList := List.mem_of_getElem? hi
          have hi' : fs[i]? = some f := by simpa using hi
          have := hf i f hi'
          have hlx : i < xs.length := by
            rw [hxl]
            exact (Array.getElem?_eq_some_iff.1 hi').1
          rw [List.getElem?_eq_getElem hlx] at this
          rw [List.getElem?_map, List.getElem?_eq_getElem hlx, Option.map_some, Option.some.injEq] at hk
          subst hk
          exact lays hT hL n _ _ _ ((kid_struct hL hlt hu).1 f hf') this
        intro E h s
        obtain ⟨_, g⟩ := lays_fields n fs.toList (xs.map fun x => bulk x.1) 0 _ cs htile hl (by simp [hxl]) hfl
        obtain ⟨E', h', vs, a1, a2, a3, a4, a5, a6⟩ := g E h s
        refine ⟨E', h', vs, a1, a2, a3, by simpa using a4, by rw [a5, hl]; omega, ?_⟩
        simp only [Shp, hu]
        refine ⟨by omega, xs.map fun x => bulk x.1, by simp [hxl], ?_, fun i f k hf' hk => ⟨?_, by simpa using (a6 i f k hf' hk).2⟩⟩
        · simp only [bulk, bulkAll_sum, List.map_map]
          exact Nat.le_refl _
        · rw [List.getElem?_map, Option.map_eq_some_iff] at hk
          obtain ⟨y, _, rfl⟩ := hk
          exact bulk_pos _
      | slice e =>
        rcases DataW.trod_slice hu h with ⟨rfl, rfl⟩ | ⟨a, len, cap, elems, rest, n', hn, rfl, rfl, hb, hlc, _, hel, hget, _, _⟩
        · intro E h s
          exact ⟨E, h, [.nilslice], fun _ _ q => q, Ext.refl h, s, ⟨_, _, rfl, rfl, rfl⟩, rfl, by simp only [Shp, hu]; exact ⟨bulk_pos _, .inl trivial⟩⟩
        · obtain rfl : n = n' := by omega
          by_cases hs : P.cellsOf e = 0
          · refine bads _ fun h' vs _ => ?_
            simp only [Shp, hu]
            exact ⟨bulk_pos _, .inr (.inr (.inl hs))⟩
          by_cases hl0 : len = 0
          · subst hl0
            intro E h s
            refine ⟨E, h, [.tslice .z 0 0 0], fun _ _ q => q, Ext.refl h, s, ⟨_, _, rfl, ?_, rfl⟩, rfl, by simp only [Shp, hu]; exact ⟨bulk_pos _, .inr (.inl ⟨_, _, _, _, rfl⟩)⟩⟩
            simp only [Rel]
            exact ⟨_, _, rfl⟩
          · -- its elements
            have hpe : ∀ i, i < len → ∃ l, W.cells? base (a.add (i * P.cellsOf e)) (P.cellsOf e) = some l ∧ ∀ k : Nat, (elems.map fun x => bulk x.1)[i]? = some k → Lays P W n k e l := by
              intro i hi
              have := hget i hi
              rw [List.getElem?_eq_getElem (by omega)] at this
              rw [Option.bind_eq_some_iff] at this
              obtain ⟨l, h1, h2⟩ := this
              refine ⟨l, h1, fun k hk => ?_⟩
              rw [List.getElem?_map, List.getElem?_eq_getElem (by omega), Option.map_some, Option.some.injEq] at hk
              subst hk
              exact lays hT hL n _ _ _ (kid_slice hL hlt hu) h2
            obtain ⟨pieces, hp1, hp2⟩ : ∃ pieces : List (List Value), pieces.length = len ∧ ∀ i (l : List Value), pieces[i]? = some l → W.cells? base (a.add (i * P.cellsOf e)) (P.cellsOf e) = some l ∧ ∀ k : Nat, (elems.map fun x => bulk x.1)[i]? = some k → Lays P W n k e l := by
              exact pick_all (fun i l => W.cells? base (a.add (i * P.cellsOf e)) (P.cellsOf e) = some l ∧ ∀ k : Nat, (elems.map fun x => bulk x.1)[i]? = some k → Lays P W n k e l) len hpe
            have hpl : ∀ (i : Nat) (l : List Value) (k : Nat), pieces[i]? = some l → (elems.map fun x => bulk x.1)[i]? = some k → l.length = P.cellsOf e ∧ Lays P W n k e l := by
              intro i l k hi hk
              obtain ⟨q1, q2⟩ := hp2 i l hi
              exact ⟨(cells_get q1).1, q2 k hk⟩
            have hpl0 : ∀ l ∈ pieces, l.length = P.cellsOf e := by
              intro l hl
              obtain ⟨i, hi⟩ := List.getElem?_of_mem hl
              exact (cells_get (hp2 i l hi).1).1
            intro E h s
            obtain ⟨E1, h1, us, a1, a2, a3, a4, a5, a6⟩ := lays_pieces n (P.cellsOf e) e pieces (elems.map fun x => bulk x.1) (by simp [hel, hp1]) hpl E h s
            have hfl := flatten_len (P.cellsOf e) pieces hpl0
            have hpos : 0 < len * P.cellsOf e := Nat.mul_pos (by omega) (by omega)
            have hcell : ∀ i, i < pieces.flatten.length → W.cell? (a.add i) = pieces.flatten[i]? := by
              intro q hq
              rw [hfl] at hq
              have hmod : q % P.cellsOf e < P.cellsOf e := Nat.mod_lt _ (by omega)
              have hdiv : q / P.cellsOf e < pieces.length := Nat.div_lt_of_lt_mul (by rw [Nat.mul_comm]; exact hq)
              have hq2 : q / P.cellsOf e * P.cellsOf e + q % P.cellsOf e = q := by rw [Nat.mul_comm]; exact Nat.div_add_mod q _
              rw [← hq2, flatten_get (P.cellsOf e) pieces _ _ hpl0 hdiv hmod, List.getElem?_eq_getElem hdiv]
              obtain ⟨q1, _⟩ := hp2 _ _ (List.getElem?_eq_getElem hdiv)
              have := (cells_get q1).2 _ hmod
              rw [Option.bind_some, ← this]
              congr 1
              unfold Addr.add
              by_cases z1 : q / P.cellsOf e * P.cellsOf e = 0
              · rw [z1]; simp
              · by_cases z2 : q % P.cellsOf e = 0
                · rw [z2]; simp
                · have z3 : ¬ (q / P.cellsOf e * P.cellsOf e + q % P.cellsOf e = 0) := by omega
                  rw [if_neg z1, if_neg z2, if_neg z3]
                  simp [Nat.add_assoc]
            obtain ⟨E2, h2, b, b1, b2, b3, b4, b5, b6, b7⟩ := view_row a3 (cap := cap) (by rw [hfl, hp1]; exact hpos) hcell a4
            refine ⟨E2, h2, [.slice b 0 len cap], a1.trans b1, a2.trans b2, b3, ⟨_, _, rfl, ?_, rfl⟩, rfl, ?_⟩
            · simp only [Rel]
              refine ⟨_, b6, hlc, ?_⟩
              obtain ⟨bl, of', st⟩ := a
              simp only at b5
              subst b5
              rfl
            · simp only [Shp, hu]
              refine ⟨bulk_pos _, .inr (.inr (.inr ⟨b, len, cap, rfl, by omega, hlc, b4, us, b7, by rw [a5, hp1], elems.map fun x => bulk x.1, by simp [hel], ?_, fun i k hk => ⟨?_, Shp.ext b2 _ _ _ _ (a6 i k hk)⟩⟩))⟩
              · simp only [bulk, bulkAll_sum, List.map_map]
                exact Nat.add_le_add_right (Nat.le_add_right _ _) 1
              · rw [List.getElem?_map, Option.map_eq_some_iff] at hk
                obtain ⟨y, _, rfl⟩ := hk
                exact bulk_pos _
      | pointer e =>
        rcases DataW.trod_pointer hu h with ⟨rfl, rfl⟩ | ⟨a, cs', y, n', hn, rfl, rfl, hc, hy⟩
        · intro E h s
          exact ⟨E, h, [.nilptr], fun _ _ q => q, Ext.refl h, s, ⟨_, _, rfl, rfl, rfl⟩, rfl, by simp only [Shp, hu]; exact ⟨bulk_pos _, .inl trivial⟩⟩
        · obtain rfl : n = n' := by omega
          by_cases hs : P.cellsOf e = 0
          · refine bads _ fun h' vs _ => ?_
            simp only [Shp, hu]
            exact ⟨bulk_pos _, .inr (.inl hs)⟩
          · intro E h s
            obtain ⟨q1, q2⟩ := cells_get hc
            obtain ⟨E1, h1, us, a1, a2, a3, a4, a5, a6⟩ := lays hT hL n _ _ _ (kid_pointer hL hlt hu) hy E h s
            obtain ⟨E2, h2, b, b1, b2, b3, b4, b5, b6, b7⟩ := view_row a3 (cap := 0) (by omega) (fun i hi => q2 i (by omega)) a4
            refine ⟨E2, h2, [.ptr b 0], a1.trans b1, a2.trans b2, b3, ⟨_, _, rfl, ?_, rfl⟩, rfl, ?_⟩
            · simp only [Rel]
              refine ⟨_, b6, ?_⟩
              obtain ⟨bl, of', st⟩ := a
              simp only at b5
              subst b5
              rfl
            · simp only [Shp, hu]
              exact ⟨bulk_pos _, .inr (.inr ⟨b, rfl, b4, us, b7, by omega, _, Nat.le_refl _, Shp.ext b2 _ _ _ _ a6⟩)⟩
      | map k e =>
        have hcs : cs.length = 1 := by
          unfold DataW.trod at h
          rw [hu] at h
          split at h <;> simp_all
        intro E h s
        refine ⟨E, h, [.bad], fun _ _ q => q, Ext.refl h, s, ?_, by simp [hcs], by simp only [Shp, hu]; exact .inr trivial⟩
        match cs, hcs with
        | [c], _ => exact ⟨c, [], rfl, by simp [Rel], rfl⟩
      | interface ms =>
        have hcs : cs.length = 1 := by
          unfold DataW.trod at h
          rw [hu] at h
          split at h <;> simp_all
        intro E h s
        refine ⟨E, h, [.bad], fun _ _ q => q, Ext.refl h, s, ?_, by simp [hcs], by simp only [Shp, hu]; exact .inr trivial⟩
        match cs, hcs with
        | [c], _ => exact ⟨c, [], rfl, by simp [Rel], rfl⟩
      | _ =>
        refine bads cs fun h' vs _ => ?_
        simp only [Shp, hu]
def ShpV (P : Program) (h : Heap) (n m : Nat) (t : TypeId) (v : V) : Prop :=
  match P.underlying t with
  | some (.struct _) | some (.array _ _) => ∃ vs, v = .agg vs ∧ Shp P h n m t vs
  | _ => Shp P h n m t [v]
theorem ShpV.ext {h h' : Heap} (e : Ext h h') {n m : Nat} {t : TypeId} {v : V} (H : ShpV P h n m t v) : ShpV P h' n m t v := by
  unfold ShpV at H ⊢
  split at H
  · obtain ⟨vs, q1, q2⟩ := H
    exact ⟨vs, q1, Shp.ext e _ _ _ _ q2⟩
  · obtain ⟨vs, q1, q2⟩ := H
    exact ⟨vs, q1, Shp.ext e _ _ _ _ q2⟩
  · exact Shp.ext e _ _ _ _ H
theorem lays_arg (hT : tilesB P = true) (hL : laidOutB P = true) {r : Reach} {b0 : Nat} {t : TypeId} {v : Value} {d : DataW H} {p : List MemPlace} (hlt : t < P.types.size) (hok : Value.okWide P W r b0 t v) (hd : DataW.Trod enc P W base sp held t v d p) {E : Env} {h : Heap} (s : Sim ⟨W, fun _ => none⟩ E h W) :
    ∃ n E' h' x, E.le E' ∧ Ext h h' ∧ Sim ⟨W, fun _ => none⟩ E' h' W ∧ Rel E' x v ∧ ShpV P h' n (bulk d) t x := by
  obtain ⟨fuel, hf⟩ := hd
  obtain ⟨E', h', vs, a1, a2, a3, a4, a5, a6⟩ := lays hT hL _ _ _ _ hlt hf E h s
  have agg : (∃ cs, v = .agg cs) → ∃ x, Rel E' x v ∧ x = .agg vs := by
    rintro ⟨cs, rfl⟩
    exact ⟨.agg vs, by simp only [Rel]; exact ⟨cs, rfl, a4⟩, rfl⟩
  have one : v.cells = #[v] → ∃ x, Rel E' x v ∧ vs = [x] := by
    intro hc
    rw [hc] at a4 a5
    match vs, a4, a5 with
    | [x], ⟨y, ys, e1, e2, e3⟩, _ =>
      simp only [List.cons.injEq] at e1
      exact ⟨x, e1.1 ▸ e2, rfl⟩
  refine ⟨fuel, E', h', ?_⟩
  unfold Value.okWide at hok
  cases hu : P.underlying t with
  | none =>
    rw [hu] at hok
    simp only [Cell.okWide, Cell.ok, hu] at hok
  | some u =>
    rw [hu] at hok
    unfold ShpV
    rw [hu]
    cases u <;> simp only at hok ⊢ <;> first
      | (obtain ⟨cs, hv, _⟩ := hok
         obtain ⟨x, q1, q2⟩ := agg ⟨cs, hv⟩
         exact ⟨x, a1, a2, a3, q1, vs, q2, a6⟩)
      | (have hc : v.cells = #[v] := by
           cases v <;> first
             | rfl
             | (simp only [Cell.okWide, Cell.ok, hu] at hok)
         obtain ⟨x, q1, q2⟩ := one hc
         exact ⟨x, a1, a2, a3, q1, q2 ▸ a6⟩)
def ShpL (P : Program) (h : Heap) : Nat → List TypeId → List V → Prop
  | _, [], [] => True
  | m, t :: ts, v :: vs => ∃ k k', k + k' ≤ m ∧ (∃ n, ShpV P h n k t v) ∧ ShpL P h k' ts vs
  | _, _, _ => False
theorem ShpL.mono {h : Heap} : ∀ {m m' : Nat} {ts : List TypeId} {vs : List V}, m ≤ m' → ShpL P h m ts vs → ShpL P h m' ts vs
  | _, _, [], [], _, H => by unfold ShpL; trivial
  | _, _, [], _ :: _, _, H => H.elim
  | _, _, _ :: _, [], _, H => H.elim
  | _, _, _ :: _, _ :: _, hm, ⟨k, k', hk, H, H'⟩ => ⟨k, k', Nat.le_trans hk hm, H, H'⟩
theorem lays_args (hT : tilesB P = true) (hL : laidOutB P = true) {r : Reach} {b0 : Nat} : ∀ {ts : List TypeId} {vs : List Value} {ds : List (DataW H)} {p : List MemPlace}, (∀ t ∈ ts, t < P.types.size) → (∀ (j : Nat) t v, ts[j]? = some t → vs[j]? = some v → Value.okWide P W r b0 t v) →
    DataW.TrodAll enc P W base sp held ts vs ds p → ∀ {E : Env} {h : Heap}, Sim ⟨W, fun _ => none⟩ E h W → ∃ E' h' xs, E.le E' ∧ Ext h h' ∧ Sim ⟨W, fun _ => none⟩ E' h' W ∧ RelL E' xs vs ∧ ShpL P h' (bulkAll ds) ts xs
  | [], [], ds, p, _, _, _, E, h, s => ⟨E, h, [], fun _ _ q => q, Ext.refl h, s, rfl, by unfold ShpL; trivial⟩
  | [], _ :: _, ds, p, _, _, hd, E, h, s => by cases ds <;> exact hd.elim
  | _ :: _, [], ds, p, _, _, hd, E, h, s => by cases ds <;> exact hd.elim
  | _ :: _, _ :: _, [], p, _, _, hd, E, h, s => hd.elim
  | t :: ts, v :: vs, d :: ds, p, ht, hv, ⟨p1, p2, h1, h2, _⟩, E, h, s => by
    obtain ⟨n, E1, g1, x, a1, a2, a3, a4, a5⟩ := lays_arg hT hL (ht t (by simp)) (hv 0 t v rfl rfl) h1 s
    obtain ⟨E2, g2, xs, b1, b2, b3, b4, b5⟩ := lays_args hT hL (fun t q => ht t (by simp [q])) (fun j t v q1 q2 => hv (j + 1) t v (by simpa using q1) (by simpa using q2)) h2 a3
    exact ⟨E2, g2, x :: xs, a1.trans b1, a2.trans b2, b3, ⟨_, _, rfl, Rel.mono b1 _ _ a4, b4⟩, bulk d, bulkAll ds, by simp only [bulkAll]; exact Nat.le_refl _, ⟨n, a5.ext b2⟩, b5⟩
theorem call_true (hT : tilesB P = true) (hL : laidOutB P = true) {r : Reach} {b0 : Nat} {f : FuncId} {ts : List TypeId} {vs : List Value} {ds : List (DataW H)} {p : List MemPlace} (hts : ∀ t ∈ ts, t < P.types.size) (hv : ∀ (j : Nat) t v, ts[j]? = some t → vs[j]? = some v → Value.okWide P W r b0 t v)
    (hd : DataW.TrodAll enc P W base sp held ts vs ds p) (hW : Lay.ok W) (hN : NamesOk P) (hb : ∃ fn, P.funcs[f]? = some fn ∧ fn.body.isSome = true) (hc : ∀ (h : Heap) (xs : List V), ShpL P h (bulkAll ds) ts xs → Ctr P f xs h fun y _ => y = .bool true) :
    Calls P f vs.toArray W fun e w' => e = .returned (.bool true) ∧ Below W.heap.size W w' := by
  obtain ⟨E, h, xs, _, _, a3, a4, a5⟩ := lays_args hT hL hts hv hd (sim_empty W hW)
  obtain ⟨y, h', hc', rfl⟩ := hc h xs a5
  refine (hc'.calls hN hb _ E W vs a4 a3).mono fun e w' q => ?_
  obtain ⟨E', x, rfl, _, q2, q3⟩ := q
  simp only [Rel] at q2
  subst q2
  exact ⟨rfl, q3.frame⟩
end
end Go.Proofs.YtjbiefneffiogaaGreat.Am

namespace Go.Proofs.YtjbiefneffiogaaGreat.Am
variable [Lay]
open Go Go.RowKit
theorem collect {α : Type} (enc : α → List V) (size : Nat) (Q : α → Prop) : ∀ (len : Nat) (us : List V), us.length = len * size → (∀ i, i < len → ∃ a, (us.drop (i * size)).take size = enc a ∧ Q a) →
    ∃ aa : List α, aa.length = len ∧ us = aa.flatMap enc ∧ ∀ a ∈ aa, Q a
  | 0, us, hl, _ => ⟨[], rfl, by simpa using hl, fun a h => by simp at h⟩
  | len + 1, us, hl, h => by
    obtain ⟨a, h1, h2⟩ := h 0 (by omega)
    rw [Nat.add_mul, Nat.one_mul] at hl
    obtain ⟨aa, g1, g2, g3⟩ := collect enc size Q len (us.drop size) (by rw [List.length_drop]; omega) (fun i hi => by
      obtain ⟨b, k1, k2⟩ := h (i + 1) (by omega)
      refine ⟨b, ?_, k2⟩
      rw [List.drop_drop, ← k1, Nat.add_mul, Nat.one_mul, Nat.add_comm])
    refine ⟨a :: aa, by simp [g1], ?_, fun b hb => ?_⟩
    · rw [List.flatMap_cons, ← g2, ← h1, Nat.zero_mul, List.drop_zero, List.take_append_drop]
    · rcases List.mem_cons.1 hb with rfl | hb
      · exact h2
      · exact g3 b hb
section
variable {P : Program} {h : Heap} {n m : Nat} {t : TypeId}
theorem Shp.pos {vs : List V} (H : Shp P h n m t vs) : ∃ k, n = k + 1 := by
  cases n with
  | zero => exact H.elim
  | succ m => exact ⟨m, rfl⟩
theorem Shp.int {vs : List V} {k : IntKind} (H : Shp P h n m t vs) (hu : P.underlying t = some (.int k)) : ∃ i, vs = [.int k i] ∧ (Lit.int k i).wf = true := by
  obtain ⟨m, rfl⟩ := H.pos
  simpa only [Shp, hu] using H
theorem Shp.str {vs : List V} (H : Shp P h n m t vs) (hu : P.underlying t = some .string) : ∃ s : List UInt8, vs = [.str s] ∧ s.length + 1 ≤ m := by
  obtain ⟨_, rfl⟩ := H.pos
  simpa only [Shp, hu] using H
theorem Shp.struct {vs : List V} {fs : Array Field} (H : Shp P h n m t vs) (hu : P.underlying t = some (.struct fs)) : ∃ n', n = n' + 1 ∧ vs.length = P.cellsOf t ∧ ∃ ms : List Nat, ms.length = fs.toList.length ∧ ms.sum + 1 ≤ m ∧
    ∀ (i : Nat) (f : Field) (k : Nat), fs.toList[i]? = some f → ms[i]? = some k → 1 ≤ k ∧ Shp P h n' k f.type ((vs.drop f.offset).take (P.cellsOf f.type)) := by
  obtain ⟨n', rfl⟩ := H.pos
  refine ⟨n', rfl, ?_⟩
  simpa only [Shp, hu] using H
def roomV (v : V) : Prop := ∀ b off l c, v = .slice b off l c → l ≤ c
def Sld (h : Heap) (size : Nat) (v : V) (len m : Nat) (Q : Nat → List V → Prop) : Prop :=
  v.one = true ∧ v.cells = [v] ∧ v.good = true ∧ lenSl v = some (.int .i64 len) ∧ roomV v ∧ ∃ (us : List V) (ms : List Nat), SlV h size v len us ∧ ms.length = len ∧ ms.sum + 1 ≤ m ∧ ∀ (i k : Nat), ms[i]? = some k → 1 ≤ k ∧ Q k ((us.drop (i * size)).take size)
theorem Shp.slice {vs : List V} {e : TypeId} (H : Shp P h n m t vs) (hu : P.underlying t = some (.slice e)) (hs : P.cellsOf e ≠ 0) : ∃ n' v len, n = n' + 1 ∧ vs = [v] ∧ Sld h (P.cellsOf e) v len m (fun k => Shp P h n' k e) := by
  obtain ⟨n', rfl⟩ := H.pos
  simp only [Shp, hu] at H
  obtain ⟨h0, H⟩ := H
  rcases H with rfl | ⟨b, i, j, k, rfl⟩ | q | ⟨b, len, cap, rfl, h1, h2, h4, us, k1, k2, ms, k3, k4, k5⟩
  · exact ⟨n', _, 0, rfl, rfl, rfl, rfl, rfl, rfl, (fun _ _ _ _ e => by cases e), [], [], ⟨by simp, rfl⟩, rfl, by simpa using h0, fun i k hi => by simp at hi⟩
  · exact ⟨n', _, 0, rfl, rfl, rfl, rfl, rfl, rfl, (fun _ _ _ _ e => by cases e), [], [], ⟨by simp, rfl⟩, rfl, by simpa using h0, fun i k hi => by simp at hi⟩
  · exact absurd q hs
  · exact ⟨n', _, len, rfl, rfl, rfl, rfl, rfl, rfl, (fun _ _ _ _ e => by cases e; exact h2), us, ms, ⟨k2, rfl, h4, us, k1, by omega, by simp⟩, k3, k4, k5⟩
end
end Go.Proofs.YtjbiefneffiogaaGreat.Am

namespace Go.Proofs.YtjbiefneffiogaaGreat.Am
variable [Lay]
open Go Go.RowKit Go.ChangeShapes Go.WideShapes
section
variable {H : Type} {enc : TypeId × Value → H} {P : Program}
theorem below_all (hL : laidOutB P = true) {W W' : World} (hb : Below W.heap.size W W') : ∀ {ts : List TypeId} {vs : List Value} {ds : List (DataW H)} {ps : List MemPlace}, (ts.all fun t => P.readableRec t && decide (t < P.types.size)) = true →
    DataW.TrodAll enc P W 0 (fun _ => true) true ts vs ds ps → DataW.TrodAll enc P W' 0 (fun b => decide (b < W.heap.size)) true ts vs ds ps
  | [], [], [], _, _, h => h
  | [], _ :: _, _, _, _, h => by rename_i ds _; cases ds <;> exact h.elim
  | [], [], _ :: _, _, _, h => h.elim
  | _ :: _, [], _, _, _, h => by rename_i ds _; cases ds <;> exact h.elim
  | _ :: _, _ :: _, [], _, _, h => h.elim
  | t :: ts, v :: vs, d :: ds, ps, hr, h => by
    have hlt := h.lt
    obtain ⟨p, q, h1, h2, rfl⟩ := h
    simp only [List.all_cons, Bool.and_eq_true, decide_eq_true_eq] at hr
    exact ⟨p, q, Below.trod hL hr.1.1 hr.1.2 h1 hb (fun x hx => hlt x (by simp [hx])), below_all hL hb hr.2 h2, rfl⟩
theorem trodAll_len {W : World} {base : Nat} {sp : Nat → Bool} {held : Bool} : ∀ {ts : List TypeId} {vs : List Value} {ds : List (DataW H)} {ps : List MemPlace}, DataW.TrodAll enc P W base sp held ts vs ds ps → ds.length = ts.length
  | [], [], [], _, _ => rfl
  | [], _ :: _, ds, _, h => by cases ds <;> exact h.elim
  | [], [], _ :: _, _, h => h.elim
  | _ :: _, [], ds, _, h => by cases ds <;> exact h.elim
  | _ :: _, _ :: _, [], _, h => h.elim
  | t :: ts, v :: vs, d :: ds, ps, h => by
    obtain ⟨p, q, h1, h2, rfl⟩ := h
    simp [trodAll_len h2]
theorem law_true (hT : tilesB P = true) (hL : laidOutB P = true) {f : FuncId} {fn : Func} {s : ChangeSpec} {tb : TypeId} (hts : (fn.params.toList.all fun t => P.readableRec t && decide (t < P.types.size)) = true) (hvars : s.vars = []) (hrt : fn.resultTypes = #[tb]) (hub : P.underlying tb = some .bool)
    (hspec : ∀ ds : List (DataW H), ds.length = fn.params.size → s.fn H (ds ++ []) = { results := [.lit (.bool true)], args := ds })
    {B : Nat} (hc : ∀ (h : Heap) (xs : List V), ShpL P h B fn.params.toList xs → Ctr P f xs h fun y _ => y = .bool true)
    {W : World} {base : Nat} {args : Array Value} {ds gs : List (DataW H)} {before : List MemPlace} (hk : bulkAll (ds ++ gs) ≤ B) (hlay : Lay.ok W) (hN : NamesOk P) (hb : ∃ fn, P.funcs[f]? = some fn ∧ fn.body.isSome = true)
    (hval : ∀ (j : Nat) t v, fn.params[j]? = some t → args[j]? = some v → Value.okWide P W .any base t v) (hW : DataW.Whole enc P fn.params.toList s.vars false W args.toList ds gs before) :
    Calls P f args W fun e W' => ∃ v, e = .returned v ∧ s.post enc P fn false true false false W args v W' := by
  have hW' := hW
  obtain ⟨p, q, hA, hV, rfl, hfz, hnd⟩ := hW
  rw [hvars] at hV
  obtain ⟨rfl, rfl⟩ := trodVars_none hV
  have hlen : ds.length = fn.params.size := by rw [trodAll_len hA]; simp
  have hw := call_true hT hL (b0 := base) (r := .any) (fun t ht => by
    have := List.all_eq_true.1 hts t ht
    simp only [Bool.and_eq_true, decide_eq_true_eq] at this
    exact this.2) (fun j t v h1 h2 => hval j t v (by simpa using h1) (by simpa using h2)) hA hlay hN hb (fun h xs q => hc h xs (q.mono (by simpa using hk)))
  simp only [Array.toArray_toList] at hw
  refine hw.mono fun e W' ⟨he, bel⟩ => ?_
  subst he
  refine ⟨_, rfl, ds, [], p ++ [], [], p, [], hW', ?_, ?_, ?_, bel.frame _, fun h => by cases h⟩
  · rw [hspec ds hlen, hrt]
    exact trodAll_mk1 (shut_bool hub _)
  · rw [hspec ds hlen]
    exact below_all hL bel hts hA
  · rw [hspec ds hlen, hvars]
    rfl
end
end Go.Proofs.YtjbiefneffiogaaGreat.Am

namespace Go.Proofs.YtjbiefneffiogaaGreat.Am
variable [Lay]
open Go Go.RowKit
theorem shp_none {P : Program} {h : Heap} {B : Nat} {xs : List V} (hs : ShpL P h B [] xs) : xs = [] := by
  match xs, hs with
  | [], _ => rfl
theorem shp_cons {P : Program} {h : Heap} {B : Nat} {t : TypeId} {ts : List TypeId} {xs : List V} (hs : ShpL P h B (t :: ts) xs) : ∃ a aa k k' n, xs = a :: aa ∧ k + k' ≤ B ∧ ShpV P h n k t a ∧ ShpL P h k' ts aa := by
  match xs, hs with
  | a :: aa, ⟨k, k', hk, ⟨n, h0⟩, h1⟩ => exact ⟨a, aa, k, k', n, rfl, hk, h0, h1⟩
section
variable {P : Program} {h : Heap} {n m : Nat} {t : TypeId} {v : V}
theorem shpv_int {k : IntKind} (hs : ShpV P h n m t v) (hu : P.underlying t = some (.int k)) : ∃ i, v = .int k i ∧ (Lit.int k i).wf = true := by
  unfold ShpV at hs
  rw [hu] at hs
  obtain ⟨s, e, q⟩ := Shp.int hs hu
  simp only [List.cons.injEq, and_true] at e
  exact ⟨s, e, q⟩
theorem shpv_struct {fs : Array Field} (hs : ShpV P h n m t v) (hu : P.underlying t = some (.struct fs)) : ∃ vs, v = .agg vs ∧ Shp P h n m t vs := by
  unfold ShpV at hs
  rw [hu] at hs
  exact hs
theorem shpv_slice {e : TypeId} (hs : ShpV P h n m t v) (hu : P.underlying t = some (.slice e)) {c : Nat} (hc : P.cellsOf e = c) (hc0 : c ≠ 0) : ∃ n' len, Sld h c v len m (fun k => Shp P h n' k e) := by
  unfold ShpV at hs
  rw [hu] at hs
  subst hc
  obtain ⟨n', w, len, _, e1, g⟩ := Shp.slice hs hu hc0
  simp only [List.cons.injEq, and_true] at e1
  subst e1
  exact ⟨n', len, g⟩
end
end Go.Proofs.YtjbiefneffiogaaGreat.Am

namespace Go.Proofs.YtjbiefneffiogaaGreat.Am
variable [Lay]
open Go Go.RowKit Go.Maps Go.Sort Go.Shelf
def insZ (x : Int) : List Int → List Int
  | [] => [x]
  | y :: l => bif Int.leB x y then x :: y :: l else y :: insZ x l
def sortZ : List Int → List Int
  | [] => []
  | x :: l => insZ x (sortZ l)
theorem insZ_perm (x : Int) : ∀ l, (insZ x l).Perm (x :: l)
  | [] => List.Perm.refl _
  | y :: l => by
    simp only [insZ]
    cases Int.leB x y with
    | true => exact List.Perm.refl _
    | false => exact ((insZ_perm x l).cons y).trans (List.Perm.swap x y l)
theorem sortZ_perm : ∀ l, (sortZ l).Perm l
  | [] => List.Perm.refl _
  | x :: l => (insZ_perm x _).trans ((sortZ_perm l).cons x)
theorem insZ_sorted (x : Int) : ∀ l : List Int, l.Pairwise (· ≤ ·) → (insZ x l).Pairwise (· ≤ ·)
  | [], _ => List.pairwise_singleton _ _
  | y :: l, h => by
    simp only [insZ, leB_dec]
    by_cases hxy : x ≤ y
    · rw [decide_eq_true hxy]
      refine List.pairwise_cons.2 ⟨fun z hz => ?_, h⟩
      rcases List.mem_cons.1 hz with rfl | hz
      · exact hxy
      · exact Int.le_trans hxy ((List.pairwise_cons.1 h).1 z hz)
    · rw [decide_eq_false hxy]
      refine List.pairwise_cons.2 ⟨fun z hz => ?_, insZ_sorted x l (List.pairwise_cons.1 h).2⟩
      rcases List.mem_cons.1 ((insZ_perm x l).mem_iff.1 hz) with rfl | hz
      · omega
      · exact (List.pairwise_cons.1 h).1 z hz
theorem sortZ_sorted : ∀ l, (sortZ l).Pairwise (· ≤ ·)
  | [] => .nil
  | x :: l => insZ_sorted x _ (sortZ_sorted l)
theorem sortZ_eq {l m : List Int} (h : m.Perm l) : m.mergeSort (fun x y => decide (x ≤ y)) = sortZ l := by
  have hp : (m.mergeSort (fun x y => decide (x ≤ y))).Perm (sortZ l) := ((List.mergeSort_perm m _).trans h).trans (sortZ_perm l).symm
  have hs : (m.mergeSort (fun x y => decide (x ≤ y))).Pairwise (· ≤ ·) := by
    have := List.pairwise_mergeSort (le := fun x y : Int => decide (x ≤ y)) (fun a b c h1 h2 => by simp only [decide_eq_true_eq] at *; omega) (fun a b => by simp only [Bool.or_eq_true, decide_eq_true_eq]; omega) m
    exact this.imp (fun h => by simpa using h)
  exact hp.eq_of_pairwise (fun a b _ _ h1 h2 => Int.le_antisymm h1 h2) hs (sortZ_sorted l)
def keysZ : List ME → Option (List Int)
  | [] => some []
  | m :: ms => match m.k with
    | .int .i64 n => (match keysZ ms with
      | some l => some (n :: l)
      | none => none)
    | _ => none
def memZ (x : Int) : List Int → Bool
  | [] => false
  | y :: l => Int.eqB x y || memZ x l
def nodupZ : List Int → Bool
  | [] => true
  | x :: l => !memZ x l && nodupZ l
def bornsB (clock : Nat) : Nat → List ME → Bool
  | _, [] => true
  | lo, m :: ms => Nat.ble lo m.born && Nat.blt m.born clock && bornsB clock (m.born + 1) ms
def wfZ : List Int → Bool
  | [] => true
  | x :: l => (Lit.int .i64 x).wf && wfZ l
def intsV (l : List Int) : List V := l.map (V.int .i64)
noncomputable def sortedOf (g : FuncId) (bb : Pa) (h : Heap) : OR :=
  match h.get bb with
  | .cells n cs 0 _ => bif Nat.blt 0 n then (match T.get .bad (pa 0) cs with
    | .map b => (match h.get b with
      | .mp es clock => (match keysZ es with
        | some ks => bif nodupZ ks && bornsB clock 0 es && wfZ ks && Nat.ble es.length 1000000 then (match sortZ ks with
            | [] => .val .nilslice h
            | x :: l => (match newGrow h (intsV (x :: l)) 1 false with
              | some h' => .val (.gslice (pa h.next) 0 (x :: l).length 0) h'
              | none => .fail)) else .fail
        | none => .fail)
      | _ => .fail)
    | _ => .fail) else .fail
  | _ => .fail
noncomputable def sortedKeysC (g : FuncId) : PrimC :=
  ⟨fun args h => match args with
    | [.func f [.ptr bb 0]] => bif Nat.beq f g then sortedOf g bb h else .fail
    | _ => .fail⟩
theorem keysZ_len : ∀ {es : List ME} {ks : List Int}, keysZ es = some ks → ks.length = es.length
  | [], ks, h => by simp only [keysZ, Option.some.injEq] at h; subst h; rfl
  | m :: ms, ks, h => by
    unfold keysZ at h
    split at h
    · cases hq : keysZ ms with
      | none => rw [hq] at h; cases h
      | some l =>
        rw [hq] at h
        simp only [Option.some.injEq] at h
        subst h
        simp [keysZ_len hq]
    · cases h
theorem keysZ_rel {E : Env} : ∀ {es : List ME} {ks : List Int} {l : List MapEntry}, keysZ es = some ks → MRel E es l → l.map (·.key) = ks.map (Value.int .i64) ∧ l.map (·.born) = es.map (·.born)
  | [], ks, l, h, hr => by
    simp only [keysZ, Option.some.injEq] at h
    simp only [MRel] at hr
    subst h hr
    exact ⟨rfl, rfl⟩
  | m :: ms, ks, l, h, hr => by
    simp only [MRel] at hr
    obtain ⟨e, es', rfl, h1, h2, h3, h4⟩ := hr
    unfold keysZ at h
    split at h
    · rename_i n hk
      cases hq : keysZ ms with
      | none => rw [hq] at h; cases h
      | some l =>
        rw [hq] at h
        simp only [Option.some.injEq] at h
        subst h
        obtain ⟨g1, g2⟩ := keysZ_rel hq h4
        rw [hk] at h1
        simp only [Rel] at h1
        simp only [List.map_cons, g1, g2, h1, h3, and_self]
    · cases h
theorem memZ_mem {x : Int} : ∀ {l : List Int}, memZ x l = false → x ∉ l
  | [], _ => by simp
  | y :: l, h => by
    simp only [memZ, Bool.or_eq_false_iff] at h
    have h1 : ¬ x = y := by
      intro q
      have := h.1
      rw [eqB_dec, decide_eq_false_iff_not] at this
      exact this q
    rw [List.mem_cons]
    rintro (q | q)
    · exact h1 q
    · exact memZ_mem h.2 q
theorem nodupZ_nodup : ∀ {l : List Int}, nodupZ l = true → l.Nodup
  | [], _ => List.nodup_nil
  | x :: l, h => by
    simp only [nodupZ, Bool.and_eq_true, Bool.not_eq_true'] at h
    exact List.nodup_cons.2 ⟨memZ_mem h.1, nodupZ_nodup h.2⟩
theorem bornsB_ok {clock : Nat} : ∀ {lo : Nat} {es : List ME}, bornsB clock lo es = true → (∀ n ∈ es.map (·.born), lo ≤ n ∧ n < clock) ∧ (es.map (·.born)).Nodup
  | lo, [], _ => ⟨by simp, by simp⟩
  | lo, m :: ms, h => by
    simp only [bornsB, Bool.and_eq_true, Nat.ble_eq, Nat.blt_eq] at h
    obtain ⟨g1, g2⟩ := bornsB_ok h.2
    refine ⟨fun n hn => ?_, ?_⟩
    · rw [List.map_cons] at hn
      rcases List.mem_cons.1 hn with rfl | hn
      · exact h.1
      · have := g1 n hn
        omega
    · rw [List.map_cons]
      refine List.nodup_cons.2 ⟨fun q => ?_, g2⟩
      have := g1 _ q
      omega
theorem wfZ_mem : ∀ {l : List Int}, wfZ l = true → ∀ x ∈ l, (Lit.int .i64 x).wf = true
  | [], _, x, hx => by cases hx
  | y :: l, h, x, hx => by
    simp only [wfZ, Bool.and_eq_true] at h
    rcases List.mem_cons.1 hx with rfl | hx
    · exact h.1
    · exact wfZ_mem h.2 x hx
theorem nodup_map_int {l : List Int} (h : l.Nodup) : (l.map (Value.int .i64)).Nodup := by
  induction l with
  | nil => exact List.nodup_nil
  | cons x l ih =>
    obtain ⟨h1, h2⟩ := List.nodup_cons.1 h
    rw [List.map_cons]
    refine List.nodup_cons.2 ⟨fun q => ?_, ih h2⟩
    obtain ⟨y, hy, e⟩ := List.mem_map.1 q
    cases e
    exact h1 hy
def SortedKeys (P : Program) (f g : FuncId) (kt : TypeId) : Prop :=
  ∀ (Bm b nn : Nat) (D0 : DataW Unit) (R : Value → Option (DataW Unit × List MemPlace)) (w : World), Bm < w.heap.size → w.cell? ⟨Bm, 0, none⟩ = some (.map (some b)) → w.ownsMap P kt R b nn D0 → Maps.size D0 ≤ maxLen → Maps.size D0 * 8 ≤ 140737488355328 →
    Calls P f #[.func (.func g) #[] #[.pointer (some ⟨Bm, 0, none⟩)]] w fun e w' => ∃ (v : Value) (ss : List Int), e = .returned v ∧ ss.Perm (intKeys D0) ∧
      w'.ownsRow w.heap.size kt 1 v ss.length ((ss.mergeSort (fun x y => decide (x ≤ y))).map encZ) ∧ (v = .slice none 0 0 ↔ ss = []) ∧ Below w.heap.size w w'
theorem intsV_rel (E : Env) : ∀ l : List Int, RelL E (intsV l) (l.map encZ)
  | [] => rfl
  | x :: l => by
    simp only [intsV, List.map_cons, RelL]
    exact ⟨_, _, rfl, by simp only [Rel], intsV_rel E l⟩
theorem own_lt {w0 : Fr} {E : Env} {h : Heap} {w : World} (s : Sim w0 E h w) {b : Pa} {q : Pl} (ho : (h.get b).own = true) (hq : E b = some q) : q.blk < w.heap.size := by
  have hb := s.at hq
  cases hg : h.get b with
  | dead => rw [hg] at ho; cases ho
  | view n cs => rw [hg] at ho; cases ho
  | cells n cs esz st => rw [hg] at hb; obtain ⟨_, q', c, el, fz, e, _, hh, _⟩ := hb; rw [e] at hq; cases hq; exact (Array.getElem?_eq_some_iff.1 hh).1
  | iter st pos => rw [hg] at hb; obtain ⟨q', e, _, _, hh⟩ := hb; rw [e] at hq; cases hq; exact (Array.getElem?_eq_some_iff.1 hh).1
  | mp es clock => rw [hg] at hb; obtain ⟨q', a, e, _, hh, _⟩ := hb; rw [e] at hq; cases hq; exact (Array.getElem?_eq_some_iff.1 hh).1
theorem sortedKeys_ok {P : Program} {f g : FuncId} {kt : TypeId} (hkt : P.underlying kt = some (.int .i64)) (C : SortedKeys P f g kt) {args : List V} {h h' : Heap} {v : V} (he : (sortedKeysC g).run args h = .val v h')
    (w0 : Fr) (E : Env) (w : World) (xs : List Value) (hx : RelL E args xs) (s : Sim w0 E h w) :
    Calls P f xs.toArray w fun e w' => ∃ E' x, e = .returned x ∧ E.le E' ∧ Rel E' v x ∧ Sim w0 E' h' w' := by
  match args, he, hx with
  | [.func f' [.ptr bb 0]], he, hx =>
    simp only [sortedKeysC] at he
    cases hfg : Nat.beq f' g with
    | false => rw [hfg] at he; cases he
    | true =>
      rw [hfg] at he
      simp only [cond_true] at he
      have hfg' : f' = g := Nat.eq_of_beq_eq_true hfg
      subst hfg'
      simp only [RelL] at hx
      obtain ⟨y, _, rfl, hy, rfl⟩ := hx
      simp only [Rel] at hy
      obtain ⟨a, rfl, q, _, ha, hq, rfl⟩ := hy
      obtain ⟨p, hp, rfl⟩ := hq
      have ha' : a = #[.pointer (some ⟨p.blk, p.base + 0, none⟩)] := by
        rw [← Array.toList_inj, ha]
      subst ha'
      unfold sortedOf at he
      split at he
      · rename_i n cs st hbb
        have hbase := s.base bb p n cs st hbb hp
        have hblk := s.at hp
        rw [hbb] at hblk
        obtain ⟨_, p', c, el, fz, e1, _, hheap, _, _, _, hcells⟩ := hblk
        rw [hp] at e1; cases e1
        cases hn : Nat.blt 0 n with
        | false => rw [hn] at he; cases he
        | true =>
          rw [hn] at he
          simp only [cond_true] at he
          rw [Nat.blt_eq] at hn
          split at he
          · rename_i b hmap
            have hc0 : 0 < c.size := by have := hcells.1; omega
            have hrel := hcells.2 0 c[0] hn (by rw [hbase]; exact Array.getElem?_eq_getElem hc0)
            rw [hmap] at hrel
            simp only [Rel] at hrel
            obtain ⟨pb, hpb, hcell⟩ := hrel
            split at he
            · rename_i es clock hes
              have hmb := s.at hpb
              rw [hes] at hmb
              obtain ⟨pb', am, e2, _, hmheap, hmr⟩ := hmb
              rw [hpb] at e2; cases e2
              cases hks : keysZ es with
              | none => rw [hks] at he; cases he
              | some ks =>
                rw [hks] at he
                simp only at he
                cases hgood : (nodupZ ks && bornsB clock 0 es && wfZ ks && Nat.ble es.length 1000000) with
                | false => rw [hgood] at he; cases he
                | true =>
                  rw [hgood] at he
                  simp only [cond_true] at he
                  simp only [Bool.and_eq_true, Nat.ble_eq] at hgood
                  obtain ⟨⟨⟨g1, g2⟩, g3⟩, g4⟩ := hgood
                  obtain ⟨k1, k2⟩ := keysZ_rel hks hmr
                  have hklen := keysZ_len hks
                  have hasize : am.size = ks.length := by
                    have := congrArg List.length k1
                    simpa using this
                  obtain ⟨b1, b2⟩ := bornsB_ok g2
                  have hmax : maxLen = 9223372036854775807 := by decide
                  have hstamp : MapKept.Stamped am clock := by
                    refine ⟨fun x hx => ?_, by rw [k2]; exact b2, by rw [k1]; exact nodup_map_int (nodupZ_nodup g1)⟩
                    have : x.born ∈ es.map (·.born) := by rw [← k2]; exact List.mem_map_of_mem hx
                    exact (b1 _ this).2
                  have hkeyAt : ∀ x ∈ am.toList, ∃ n ∈ ks, x.key = .int .i64 n := by
                    intro x hx
                    have : x.key ∈ am.toList.map (·.key) := List.mem_map_of_mem hx
                    rw [k1] at this
                    obtain ⟨n, hn, e⟩ := List.mem_map.1 this
                    exact ⟨n, hn, e.symm⟩
                  have hrd : ∀ x ∈ am.toList, ∃ n, x.key = .int .i64 n ∧ WideElems.rd P kt (fun _ => some ((.nil : DataW Unit), [])) x = some (.int .i64 n, .nil) := by
                    intro x hx
                    obtain ⟨n, hn, e⟩ := hkeyAt x hx
                    refine ⟨n, e, ?_⟩
                    unfold WideElems.rd
                    rw [e, Maps.keyOf_int_mk hkt (wfZ_mem g3 n hn)]
                    rfl
                  have hfit : WideElems.Fit P kt (fun _ => some ((.nil : DataW Unit), [])) am clock := ⟨by rw [hasize, hklen, hmax]; omega, hstamp, fun x hx => by obtain ⟨n, _, e⟩ := hrd x hx; exact ⟨_, e⟩⟩
                  have hown : w.ownsMap P kt (fun _ => some ((.nil : DataW Unit), [])) pb.blk am.size (.map ((am.toList.map (WideElems.rg P kt (fun _ => some ((.nil : DataW Unit), [])))).foldr DataW.insert [])) := ⟨am, clock, hmheap, hfit, Nat.le_refl _, rfl⟩
                  have hkeys : (am.toList.map (WideElems.rg P kt (fun _ => some ((.nil : DataW Unit), [])))).map (fun p => intOf p.1) = ks := by
                    have hz : ∀ (l : List MapEntry) (zs : List Int), (∀ x ∈ l, ∃ n, x.key = .int .i64 n ∧ WideElems.rd P kt (fun _ => some ((.nil : DataW Unit), [])) x = some (.int .i64 n, .nil)) → l.map (·.key) = zs.map (Value.int .i64) → (l.map (WideElems.rg P kt (fun _ => some ((.nil : DataW Unit), [])))).map (fun p => intOf p.1) = zs := by
                      intro l
                      induction l with
                      | nil =>
                        intro zs _ e
                        cases zs with
                        | nil => rfl
                        | cons z zs => simp at e
                      | cons x l ih =>
                        intro zs hall e
                        cases zs with
                        | nil => simp at e
                        | cons z zs =>
                          simp only [List.map_cons, List.cons.injEq] at e
                          obtain ⟨n, e1, e2⟩ := hall x (List.mem_cons_self ..)
                          have hzn : z = n := by
                            have := e.1.symm.trans e1
                            injection this
                          rw [List.map_cons, List.map_cons, ih zs (fun y hy => hall y (List.mem_cons_of_mem _ hy)) e.2]
                          unfold WideElems.rg
                          rw [e2, hzn]
                          rfl
                    exact hz am.toList ks hrd k1
                  have hD : (intKeys (.map ((am.toList.map (WideElems.rg P kt (fun _ => some ((.nil : DataW Unit), [])))).foldr DataW.insert []) : DataW Unit)).Perm ks := by
                    have := (WideShapes.sorted_perm (am.toList.map (WideElems.rg P kt (fun _ => some ((.nil : DataW Unit), []))))).map (fun p => intOf p.1)
                    rw [hkeys] at this
                    exact this
                  have hsz : Maps.size (.map ((am.toList.map (WideElems.rg P kt (fun _ => some ((.nil : DataW Unit), [])))).foldr DataW.insert []) : DataW Unit) = ks.length := by
                    rw [Maps.size_eq, length_sorted, List.length_map, Array.length_toList, hasize]
                  have hlt := (Array.getElem?_eq_some_iff.1 hheap).1
                  have hcellw : w.cell? ⟨p.blk, 0, none⟩ = some (.map (some pb.blk)) := by
                    simp only [World.cell?, hheap]
                    rw [← hcell]
                    exact Array.getElem?_eq_getElem hc0
                  have call := C p.blk pb.blk am.size _ _ w hlt hcellw hown (by rw [hsz, hklen, hmax]; omega) (by rw [hsz, hklen]; omega)
                  rw [show p.base + 0 = 0 from by rw [hbase]]
                  refine call.mono fun e w' q => ?_
                  obtain ⟨v0, ss, rfl, q1, q2, q3, q4⟩ := q
                  have hperm : ss.Perm ks := q1.trans hD
                  rw [sortZ_eq hperm] at q2
                  have hslen : ss.length = (sortZ ks).length := by rw [hperm.length_eq, (sortZ_perm ks).length_eq]
                  split at he
                  · rename_i hs0
                    have : ss = [] := by
                      rw [hs0] at hslen
                      exact List.eq_nil_of_length_eq_zero hslen
                    cases he
                    rw [q3.2 this]
                    exact ⟨E, _, rfl, fun _ _ q => q, by simp only [Rel], s.below q4⟩
                  · rename_i x l hs1
                    rw [hs1] at hslen q2
                    cases hgr : newGrow h (intsV (x :: l)) 1 false with
                    | none => rw [hgr] at he; cases he
                    | some h1 =>
                      rw [hgr] at he
                      simp only [OR.val.injEq] at he
                      obtain ⟨rfl, rfl⟩ := he
                      obtain ⟨r1, r2⟩ := q2
                      rcases r2 with ⟨_, r2⟩ | ⟨gb, cap, cur, rfl, r2, r3, r4, r5, r6, r7⟩
                      · rw [hslen] at r2; cases r2
                      · unfold newGrow at hgr
                        obtain ⟨hc, hgr⟩ := cond_some hgr
                        simp only [Bool.and_eq_true, Nat.ble_eq] at hc
                        simp only [Option.some.injEq] at hgr
                        subst hgr
                        have hput : E.put (pa h.next) ⟨gb, 0, cap⟩ (pa h.next) = some ⟨gb, 0, cap⟩ := by unfold Env.put; rw [if_pos rfl]
                        have hle : E.le (E.put (pa h.next) ⟨gb, 0, cap⟩) := Env.le_put (s.fresh h.next (Nat.le_refl _))
                        refine ⟨_, _, rfl, hle, ?_, s.add (p := ⟨gb, 0, cap⟩) q4.size (fun j hj _ => q4.block j hj) (Nat.le_trans s.frame.size r2) (fun b' q' ho' hq' he' => ?_) q4.os q4.tape q4.output (fun _ _ _ e => by injection e with _ _ e3; omega) ?_⟩
                        · simp only [Rel]
                          exact ⟨_, hput, by simp only [Nat.zero_add]; omega, by simp only [Nat.add_zero, Nat.sub_zero, hslen]⟩
                        · have := own_lt s ho' hq'
                          simp only at he'
                          omega
                        · have hcs := fresh_cells (RelL.mono hle _ _ (intsV_rel E (x :: l))) hc.1 (cur.toList.drop (ss.length * 1)).toArray
                          have hcur : ((x :: l).map encZ).toArray ++ (cur.toList.drop (ss.length * 1)).toArray = cur := by
                            rw [← r7, ← Array.toList_inj]
                            simp
                          rw [hcur] at hcs
                          exact ⟨hc.1, ⟨gb, 0, cap⟩, cur, kt, (0, 0), hput, Nat.le_trans s.frame.size r2, r3, .inr (Nat.le_refl _), fun _ => rfl, fun _ => by simp only; omega, hcs⟩
            · cases he
          · cases he
      · cases he
end Go.Proofs.YtjbiefneffiogaaGreat.Am

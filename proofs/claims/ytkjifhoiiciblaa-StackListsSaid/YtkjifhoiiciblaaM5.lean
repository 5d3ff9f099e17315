/- The abstract machine and its walks (a verified interpreter of the model's code: plain definitions and lemmas, no condition). -/
import Derived.Test.YtkjifhoiiciblaaM3

namespace Go.Proofs.Ytkjifhoiiciblaa.Am
open Go Go.RowKit

/-! Steps that simp takes: what is pure parts no way. -/
def withO {α : Type} (o : Option α) (k : α → Prop) : Prop :=
  match o with
  | some v => k v
  | none => False
theorem with_some {α : Type} (v : α) (k : α → Prop) : withO (some v) k = k v := (rfl)
theorem with_none {α : Type} (k : α → Prop) : withO none k = False := (rfl)
@[congr] theorem with_congr {α : Type} {o o' : Option α} {k : α → Prop} (h : o = o') : withO o k = withO o' k := by rw [h]

def V.opt (c : Bool) (v : V) : V := bif c then v else .tuple []
theorem opt_true (v : V) : V.opt true v = v := (rfl)
theorem opt_false (v : V) : V.opt false v = .tuple [] := (rfl)
@[congr] theorem opt_congr {c c' : Bool} {v v' : V} (h : c = c') (hv : c' = true → v = v') : V.opt c v = V.opt c' v' := by
  subst h
  cases c with
  | true => rw [hv rfl]
  | false => rfl

def V.bif (t : Bool) (a b : V) : V := bif t then a else b
theorem vif_true (a b : V) : V.bif true a b = a := (rfl)
theorem vif_false (a b : V) : V.bif false a b = b := (rfl)
theorem bif_bool (t a b : Bool) : V.bif t (.bool a) (.bool b) = .bool (bif t then a else b) := by cases t <;> rfl
theorem bif_int (t : Bool) (k : IntKind) (a b : Int) : V.bif t (.int k a) (.int k b) = .int k (if t = true then a else b) := by cases t <;> rfl
theorem bif_or (t x : Bool) : (bif t then true else x) = (t || x) := by cases t <;> rfl
theorem bif_and (t x : Bool) : (bif t then x else false) = (t && x) := by cases t <;> rfl
@[congr] theorem bif_congr {t t' : Bool} {a a' b b' : V} (h : t = t') (ha : t' = true → a = a') (hb : t' = false → b = b') : V.bif t a b = V.bif t' a' b' := by
  subst h
  cases t with
  | true => rw [V.bif, V.bif, ha rfl]; rfl
  | false => rw [V.bif, V.bif, hb rfl]; rfl

def Imp (c : Bool) (A : Prop) : Prop := c = true → A
@[congr] theorem Imp_congr {c c' : Bool} {A A' : Prop} (h : c = c') (ha : c' = true → A = A') : Imp c A = Imp c' A' := by
  subst h
  exact propext ⟨fun q e => (ha e) ▸ q e, fun q e => (ha e) ▸ q e⟩
theorem Imp_T (c : Bool) : Imp c True = True := propext ⟨fun _ => trivial, fun _ _ => trivial⟩
theorem Imp_true (A : Prop) : Imp true A = A := propext ⟨fun q => q rfl, fun q _ => q⟩
theorem Imp_false (A : Prop) : Imp false A = True := propext ⟨fun _ => trivial, fun _ e => by cases e⟩

def took (v : V) (want : Bool) : Bool :=
  match v with
  | .bool b => b == want
  | _ => false
theorem took_bool (b w : Bool) : took (.bool b) w = (b == w) := (rfl)
theorem took_tuple (vs : List V) (w : Bool) : took (.tuple vs) w = false := (rfl)
theorem took_opt (c : Bool) (v : V) (w : Bool) : took (.opt c v) w = (c && took v w) := by cases c <;> rfl
def isGate (v : V) : Prop :=
  match v with
  | .bool _ => True
  | .tuple _ => True
  | _ => False
theorem isGate_bool (b : Bool) : isGate (.bool b) = True := (rfl)
theorem isGate_tuple (vs : List V) : isGate (.tuple vs) = True := (rfl)
theorem isGate_opt (c b : Bool) : isGate (.opt c (.bool b)) = True := by cases c <;> rfl

def G.isPure : G → Bool
  | .mv _ | .pick .. | .build .. | .ld1 _ | .ldn .. | .nilck _ | .bin .. | .un .. | .fn .. | .ifc .. | .slstr .. | .sl .. | .fa .. | .fld1 .. | .fldn .. | .ia .. | .iaa .. | .ixs .. | .ix .. | .look .. | .ext .. | .mn _ | .mx _ => true
  | .cv (.int _) _ => true
  | .len .map _ => false
  | .len _ _ => true
  | _ => false

def V.onAgg {α : Type} (v : V) (d : α) (f : List V → α) : α :=
  match v with
  | .agg cs => f cs
  | _ => d
def V.onTup {α : Type} (v : V) (d : α) (f : List V → α) : α :=
  match v with
  | .tuple cs => f cs
  | _ => d
def pickB (c a b : V) : Option V :=
  match c with
  | .bool t => some (V.bif t a b)
  | _ => none
theorem pickB_bool (t : Bool) (a b : V) : pickB (.bool t) a b = some (V.bif t a b) := (rfl)
def sliceV (n : Nat) (x : V) (lo hi m3 : Option V) : Option V :=
  match x with
  | .nilslice => sliceNil lo hi m3
  | .slice b off ln cap => sliceKnown n b off ln cap lo hi m3
  | .gslice b off ln idx => sliceGrown n b off ln idx lo hi m3
  | .tslice b off off' idx => sliceTail b off off' idx lo hi m3
  | _ => none

noncomputable def G.pv (P : Program) (g : G) (r : RF) (h : Heap) : Option V :=
  match g with
  | .mv x => some (x.ev r)
  | .pick c a b => pickB (c.ev r) (a.ev r) (b.ev r)
  | .build z ps => (match fillR z (evPs r ps) with
    | some cs => some (.agg cs)
    | none => none)
  | .ld1 x => loadOne h (x.ev r)
  | .ldn n x => loadMany n h (x.ev r)
  | .nilck x => nilCheckV (x.ev r)
  | .bin k x y => k.run P (x.ev r) (y.ev r)
  | .un op x => unV op (x.ev r)
  | .cv (.int k) x => (x.ev r).onInt none fun _ n => some (.int k (k.wrap n))
  | .fn f caps => some (.func f (RX.evs r caps))
  | .ifc t x => some (.iface t (x.ev r))
  | .slstr x lo hi m3 => sliceStr (x.ev r) (RX.opt r lo) (RX.opt r hi) (RX.opt r m3)
  | .sl n x lo hi m3 => sliceV n (x.ev r) (RX.opt r lo) (RX.opt r hi) (RX.opt r m3)
  | .fa off x => (x.ev r).onPtr none fun b o => some (.ptr b (o + off))
  | .fld1 off x => (x.ev r).onAgg none fun cs => cs[off]?
  | .fldn off n x => (x.ev r).onAgg none fun cs => some (.agg ((cs.drop off).take n))
  | .ia n x i => (indexSlice n).run (x.ev r) (i.ev r)
  | .iaa n s x i => (indexArr n s).run (x.ev r) (i.ev r)
  | .ixs x i => indexStr.run (x.ev r) (i.ev r)
  | .ix t x i => (indexC P t).run (x.ev r) (i.ev r)
  | .look k z ok x i => lookupV k.eq z ok h (x.ev r) (i.ev r)
  | .ext x i => (x.ev r).onTup none fun vs => vs[i]?
  | .len (.arr n) _ => some (.int .i64 n)
  | .len .str x => (lenOne .string).run (x.ev r)
  | .len .slice x => (lenOne (.slice 0)).run (x.ev r)
  | .mn args => pickV (fun b a => !Int.leB a b) (RX.evs r args)
  | .mx args => pickV (fun b a => !Int.leB b a) (RX.evs r args)
  | _ => none

theorem of_none_fail {h : Heap} : OR.of h none = .fail := (rfl)

section
variable {P : Program} {r : RF} {h : Heap}

theorem pure_run {g : G} (hp : g.isPure = true) (call : CallF) : g.run P call r h = OR.of h (g.pv P r h) := by
  cases g <;> simp only [G.isPure] at hp <;> try (cases hp; done)
  all_goals simp only [G.run, G.pv]
  case mv x => rfl
  case pick c a b =>
    generalize c.ev r = q
    cases q <;> rfl
  case build z ps =>
    generalize fillR z (evPs r ps) = q
    cases q <;> rfl
  case cv k x =>
    cases k <;> simp only at hp <;> try (cases hp; done)
    simp only [CK.run]
    generalize x.ev r = q
    cases q <;> rfl
  case fn f caps => rfl
  case ifc t x => rfl
  case sl n x lo hi m3 =>
    unfold sliceV
    generalize x.ev r = q
    cases q <;> rfl
  case fld1 off x =>
    generalize x.ev r = q
    cases q <;> rfl
  case fldn off n x =>
    generalize x.ev r = q
    cases q <;> rfl
  case ext x i =>
    generalize x.ev r = q
    cases q <;> rfl
  case len k x =>
    cases k <;> simp only at hp <;> first | rfl | (cases hp; done)

theorem g_pure {g : G} (hp : g.isPure = true) {K : V → Heap → Prop} : g.wp P r h K = withO (g.pv P r h) fun v => K v h := by
  have e : g.wp P r h K = ∃ v h', g.run P nocall r h = .val v h' ∧ K v h' := by
    cases g <;> first | rfl | (simp [G.isPure] at hp; done)
  rw [e, pure_run hp]
  apply propext
  cases hv : g.pv P r h with
  | none => exact ⟨fun ⟨v, h', q, _⟩ => (by cases q), fun q => q.elim⟩
  | some v =>
    constructor
    · rintro ⟨v1, h1, q, k⟩
      simp only [OR.of, OR.val.injEq] at q
      obtain ⟨rfl, rfl⟩ := q
      exact k
    · intro k
      exact ⟨v, h, rfl, k⟩

theorem o_pure {d : Option Nat} {g : G} {rs : List Nat} {K : RF → V → Heap → Prop} (hp : g.isPure = true) : GO.wp P ⟨d, g, none, rs⟩ r h K = withO (g.pv P (r.trim rs) h) fun v => K (r.set d v) v h := by
  rw [o_plain, g_pure hp]

theorem o_imp {d : Option Nat} {g : G} {rs : List Nat} {K : RF → V → Heap → Prop} (_ : g.isPure = false) : GO.wp P ⟨d, g, none, rs⟩ r h K = g.wp P (r.trim rs) h fun v h' => K (r.set d v) v h' := o_plain

theorem o_gpure {d : Option Nat} {g : G} {j : Nat} {want : Bool} {rs : List Nat} {K : RF → V → Heap → Prop} (hp : g.isPure = true) : GO.wp P ⟨d, g, some (j, want), rs⟩ r h K =
    (isGate (r.trim rs j) ∧ Imp (took (r.trim rs j) want) ((g.pv P (r.trim rs) h).isSome = true) ∧
      K (r.set d (V.opt (took (r.trim rs j) want) ((g.pv P (r.trim rs) h).getD .bad))) (V.opt (took (r.trim rs j) want) ((g.pv P (r.trim rs) h).getD .bad)) h) := by
  rw [o_gate, g_pure hp]
  generalize r.trim rs j = q
  generalize g.pv P (r.trim rs) h = o
  apply propext
  cases q <;> simp only [gate, isGate, took, false_and, true_and]
  case bool b =>
    cases b <;> cases want <;> cases o <;> simp [withO, Imp, V.opt]
  case tuple vs => simp [Imp, V.opt]

@[congr] theorem wpOs_congr {os : List GO} {r r' : RF} {h h' : Heap} {K : RF → Heap → Prop} (e1 : r = r') (e2 : h = h') : wpOs P os r h K = wpOs P os r' h' K := by rw [e1, e2]
@[congr] theorem wpD_congr {os : List GO} {r r' : RF} {h h' : Heap} {K : List EntF → RF → Heap → Prop} (e1 : r = r') (e2 : h = h') : wpD P os r h K = wpD P os r' h' K := by rw [e1, e2]
@[congr] theorem GOwp_congr {o : GO} {r r' : RF} {h h' : Heap} {K : RF → V → Heap → Prop} (e1 : r = r') (e2 : h = h') : o.wp P r h K = o.wp P r' h' K := by rw [e1, e2]
@[congr] theorem Gwp_congr {g : G} {r r' : RF} {h h' : Heap} {K : V → Heap → Prop} (e1 : r = r') (e2 : h = h') : g.wp P r h K = g.wp P r' h' K := by rw [e1, e2]
@[congr] theorem wpC_congr {c : RC} {r r' : RF} {h h' : Heap} {Q : Ex → RF → Heap → Prop} (e1 : r = r') (e2 : h = h') : wpC P c r h Q = wpC P c r' h' Q := by rw [e1, e2]
@[congr] theorem Ctr_congr {f : FuncId} {a a' : List V} {h h' : Heap} {K : V → Heap → Prop} (e1 : a = a') (e2 : h = h') : Ctr P f a h K = Ctr P f a' h' K := by rw [e1, e2]

/-! Memory. -/
noncomputable def ld1B (k : Blk) (off : Nat) : Option V := k.see none fun n cs => bif Nat.blt off n then some (T.get .bad (pa off) cs) else none
noncomputable def ldnB (n : Nat) (k : Blk) (off : Nat) : Option V := k.see none fun m cs => bif Nat.ble (off + n) m then some (.agg (gets cs off n)) else none

theorem load1_ptr (b : Pa) (off : Nat) : loadOne h (.ptr b off) = ld1B (h.get b) off := (rfl)
theorem loadn_ptr (n : Nat) (b : Pa) (off : Nat) : loadMany n h (.ptr b off) = ldnB n (h.get b) off := (rfl)

theorem ld1_see {vs : List V} {off : Nat} : (bif Nat.blt off vs.length then some (T.get .bad (pa off) (puts .e 0 vs)) else none) = vs[off]? := by
  have := get_puts vs 0 off .e
  rw [Nat.zero_add] at this
  rw [this]
  by_cases ho : off < vs.length
  · rw [show Nat.blt off vs.length = true from by rw [Nat.blt_eq]; exact ho, if_pos ho]
    simp [List.getElem?_eq_getElem ho]
  · rw [show Nat.blt off vs.length = false from by rw [← Bool.not_eq_true, Nat.blt_eq]; exact ho]
    rw [List.getElem?_eq_none (by omega)]
    rfl
theorem ld1_ofL (vs : List V) (esz : Nat) (st : Bool) (off : Nat) : ld1B (.ofL vs esz st) off = vs[off]? := ld1_see
theorem ld1_ro (vs : List V) (off : Nat) : ld1B (.ro vs) off = vs[off]? := ld1_see

theorem ldn_see {vs : List V} {off n : Nat} : (bif Nat.ble (off + n) vs.length then some (V.agg (gets (puts .e 0 vs) off n)) else none) = if off + n ≤ vs.length then some (.agg ((vs.drop off).take n)) else none := by
  by_cases ho : off + n ≤ vs.length
  · rw [show Nat.ble (off + n) vs.length = true from by rw [Nat.ble_eq]; exact ho, if_pos ho, gets_eq vs n off ho]
    rfl
  · rw [show Nat.ble (off + n) vs.length = false from by rw [← Bool.not_eq_true, Nat.ble_eq]; exact ho, if_neg ho]
    rfl
theorem ldn_ofL (n : Nat) (vs : List V) (esz : Nat) (st : Bool) (off : Nat) : ldnB n (.ofL vs esz st) off = if off + n ≤ vs.length then some (.agg ((vs.drop off).take n)) else none := ldn_see
theorem ldn_ro (n : Nat) (vs : List V) (off : Nat) : ldnB n (.ro vs) off = if off + n ≤ vs.length then some (.agg ((vs.drop off).take n)) else none := ldn_see

theorem Rd.ld1 {b : Pa} {vs : List V} (H : Rd h b vs) (off : Nat) : ld1B (h.get b) off = vs[off]? := by
  rcases H with H | ⟨_, _, H⟩ <;> rw [H]
  · exact ld1_ro vs off
  · exact ld1_ofL vs _ _ off
theorem Rd.ldn {b : Pa} {vs : List V} (H : Rd h b vs) (n off : Nat) : ldnB n (h.get b) off = if off + n ≤ vs.length then some (.agg ((vs.drop off).take n)) else none := by
  rcases H with H | ⟨_, _, H⟩ <;> rw [H]
  · exact ldn_ro n vs off
  · exact ldn_ofL n vs _ _ off

/-- a piece of a list, laid anew, cell by cell -/
def over : List V → List V → List V
  | vs, [] => vs
  | [], _ :: _ => []
  | _ :: vs, w :: ws => w :: over vs ws
def spl : List V → Nat → List V → List V
  | vs, 0, ws => over vs ws
  | [], _ + 1, _ => []
  | v :: vs, n + 1, ws => v :: spl vs n ws

theorem over_eq : ∀ (vs ws : List V), ws.length ≤ vs.length → over vs ws = ws ++ vs.drop ws.length
  | vs, [], _ => by cases vs <;> rfl
  | [], _ :: _, h => by simp at h
  | v :: vs, w :: ws, h => by
    simp only [over, List.cons_append, List.length_cons, List.drop_succ_cons]
    rw [over_eq vs ws (by simpa using h)]

theorem spl_eq : ∀ (vs : List V) (off : Nat) (ws : List V), off + ws.length ≤ vs.length → spl vs off ws = splice vs off ws
  | vs, 0, ws, h => by
    cases vs <;> simp only [spl, splice, List.take_zero, List.nil_append, Nat.zero_add] <;> exact over_eq _ ws (by omega)
  | [], n + 1, ws, h => by simp at h
  | v :: vs, n + 1, ws, h => by
    simp only [List.length_cons] at h
    simp only [spl, splice]
    rw [spl_eq vs n ws (by omega)]
    simp only [splice, List.take_succ_cons, List.cons_append]
    rw [show n + 1 + ws.length = n + ws.length + 1 from by omega, List.drop_succ_cons]

theorem spl_length (vs : List V) (off : Nat) (ws : List V) (h : off + ws.length ≤ vs.length) : (spl vs off ws).length = vs.length := by
  rw [spl_eq vs off ws h, splice_length vs off ws h]

noncomputable def layB (n : Nat) (h : Heap) (b : Pa) (off : Nat) (y : V) (k : Blk) : Option Heap :=
  bif Nat.beq y.cells.length n then k.on none fun m cs esz st =>
    bif Nat.ble (off + y.cells.length) m && ones y.cells then some (h.set b (.cells m (puts cs off y.cells) esz st)) else none else none

theorem store_ptr (n : Nat) (b : Pa) (off : Nat) (y : V) : storeV n h (.ptr b off) y = layB n h b off y (h.get b) := (rfl)

theorem lay_ofL {n : Nat} {b : Pa} {off : Nat} {y : V} {vs : List V} {esz : Nat} {st : Bool} (h1 : y.cells.length = n) (h2 : ones y.cells = true) (h3 : off + n ≤ vs.length) :
    layB n h b off y (.ofL vs esz st) = some (h.set b (.ofL (spl vs off y.cells) esz st)) := by
  unfold layB
  rw [show Nat.beq y.cells.length n = true from by rw [Nat.beq_eq]; exact h1]
  simp only [cond_true, Blk.ofL, Blk.on]
  rw [show Nat.ble (off + y.cells.length) vs.length = true from by rw [Nat.ble_eq, h1]; exact h3, h2]
  simp only [Bool.and_true, cond_true, Option.some.injEq]
  rw [spl_length vs off _ (by rw [h1]; exact h3), spl_eq vs off _ (by rw [h1]; exact h3), puts_splice _ vs off (by rw [h1]; exact h3)]

theorem get_new_self (k : Blk) : (h.new k).get (pa h.next) = k := by rw [Heap.get_new, if_pos rfl]
theorem get_new (b : Pa) (k : Blk) : (h.new k).get b = if pa h.next = b then k else h.get b := Heap.get_new h b k
theorem get_set (b b' : Pa) (k : Blk) : (h.set b k).get b' = if b = b' then k else h.get b' := Heap.get_set h b b' k

/-- an old block -/
def Old (h : Heap) (b : Pa) : Prop := unPa b < h.next
theorem pa_unPa : ∀ b : Pa, pa (unPa b) = b := by
  have key : ∀ (b : Pa) (d : Nat), unPa b + 1 < 2 ^ d → paF d (unPa b) = b := by
    intro b
    induction b with
    | z => intro d hd; cases d <;> rfl
    | l p ih =>
      intro d hd
      cases d with
      | zero => simp [unPa] at hd
      | succ d =>
        have h2 : 2 ^ (d + 1) = 2 * 2 ^ d := by rw [Nat.pow_succ]; omega
        rw [h2] at hd
        simp only [unPa] at hd ⊢
        simp only [paF, cond_beq]
        rw [if_neg (by omega), if_pos (by omega), show (2 * unPa p + 1) / 2 = unPa p from by omega, ih d (by omega)]
    | r p ih =>
      intro d hd
      cases d with
      | zero => simp [unPa] at hd
      | succ d =>
        have h2 : 2 ^ (d + 1) = 2 * 2 ^ d := by rw [Nat.pow_succ]; omega
        rw [h2] at hd
        simp only [unPa] at hd ⊢
        simp only [paF, cond_beq]
        rw [if_neg (by omega), if_neg (by omega), show (2 * unPa p + 2) / 2 - 1 = unPa p from by omega, ih d (by omega)]
  intro b
  exact key b _ Nat.lt_log2_self

theorem old_ne {b : Pa} {i : Nat} (hb : Old h b) (hi : h.next ≤ i) : (pa i = b) = False := by
  apply propext
  constructor
  · intro e
    unfold Old at hb
    rw [← e, unPa_pa] at hb
    omega
  · exact False.elim
theorem old_new {b : Pa} {k : Blk} (hb : Old h b) : Old (h.new k) b := Nat.lt_succ_of_lt hb
theorem old_set {b b' : Pa} {k : Blk} (hb : Old h b) : Old (h.set b' k) b := hb
theorem old_self {k : Blk} : Old (h.new k) (pa h.next) := by unfold Old; rw [unPa_pa]; exact Nat.lt_succ_self _

theorem s_new {z : List V} {K : V → Heap → Prop} : (G.new z).wp P r h K = withO (newCells h z) fun h' => K (.ptr (pa h.next) 0) h' := by
  apply propext
  simp only [G.wp, G.run]
  cases newCells h z with
  | none => exact ⟨fun ⟨v, h', q, _⟩ => (by cases q), fun q => q.elim⟩
  | some h1 =>
    constructor
    · rintro ⟨v1, h1, q, k⟩
      simp only [orHeap, OR.val.injEq] at q
      obtain ⟨rfl, rfl⟩ := q
      exact k
    · intro k
      exact ⟨_, _, rfl, k⟩
theorem s_box {x : RX} {K : V → Heap → Prop} : (G.box x).wp P r h K = ((x.ev r).good = true ∧ withO (newCells h (x.ev r).cells) fun h' => K (.ptr (pa h.next) 0) h') := by
  apply propext
  simp only [G.wp, G.run]
  cases (x.ev r).good with
  | false =>
    constructor
    · rintro ⟨v, h', q, _⟩
      cases q
    · rintro ⟨q, _⟩
      cases q
  | true =>
    simp only [cond_true, true_and]
    cases newCells h (x.ev r).cells with
    | none => exact ⟨fun ⟨v, h', q, _⟩ => (by cases q), fun q => q.elim⟩
    | some h1 =>
      constructor
      · rintro ⟨v1, h1, q, k⟩
        simp only [orHeap, OR.val.injEq] at q
        obtain ⟨rfl, rfl⟩ := q
        exact k
      · intro k
        exact ⟨_, _, rfl, k⟩
theorem s_st {n : Nat} {x y : RX} {K : V → Heap → Prop} : (G.st n x y).wp P r h K = withO (storeV n h (x.ev r) (y.ev r)) fun h' => K .bad h' := by
  apply propext
  simp only [G.wp, G.run]
  cases storeV n h (x.ev r) (y.ev r) with
  | none => exact ⟨fun ⟨v, h', q, _⟩ => (by cases q), fun q => q.elim⟩
  | some h1 =>
    constructor
    · rintro ⟨v1, h1, q, k⟩
      simp only [orHeap, OR.val.injEq] at q
      obtain ⟨rfl, rfl⟩ := q
      exact k
    · intro k
      exact ⟨_, _, rfl, k⟩

/-! What the pure operations give. -/
theorem pv_mv {x : RX} : (G.mv x).pv P r h = some (x.ev r) := (rfl)
theorem pv_pick {c a b : RX} : (G.pick c a b).pv P r h = pickB (c.ev r) (a.ev r) (b.ev r) := (rfl)
theorem pv_ld1 {x : RX} : (G.ld1 x).pv P r h = loadOne h (x.ev r) := (rfl)
theorem pv_ldn {n : Nat} {x : RX} : (G.ldn n x).pv P r h = loadMany n h (x.ev r) := (rfl)
theorem pv_bin {k : BK} {x y : RX} : (G.bin k x y).pv P r h = k.run P (x.ev r) (y.ev r) := (rfl)
theorem pv_un {o : UnOp} {x : RX} : (G.un o x).pv P r h = unV o (x.ev r) := (rfl)
theorem pv_fn {f : FuncId} {cs : List RX} : (G.fn f cs).pv P r h = some (.func f (RX.evs r cs)) := (rfl)
theorem pv_ifc {t : TypeId} {x : RX} : (G.ifc t x).pv P r h = some (.iface t (x.ev r)) := (rfl)
def faV (off : Nat) (x : V) : Option V := x.onPtr none fun b o => some (.ptr b (o + off))
theorem pv_fa {off : Nat} {x : RX} : (G.fa off x).pv P r h = faV off (x.ev r) := (rfl)
theorem fa_ptr (off : Nat) (b : Pa) (o : Nat) : faV off (.ptr b o) = some (.ptr b (o + off)) := (rfl)
theorem pv_ext {x : RX} {i : Nat} : (G.ext x i).pv P r h = (x.ev r).onTup none fun vs => vs[i]? := (rfl)
theorem on_tup {α : Type} (vs : List V) (d : α) (f : List V → α) : V.onTup (.tuple vs) d f = f vs := (rfl)
theorem pv_fld1 {off : Nat} {x : RX} : (G.fld1 off x).pv P r h = (x.ev r).onAgg none fun cs => cs[off]? := (rfl)
theorem pv_fldn {off n : Nat} {x : RX} : (G.fldn off n x).pv P r h = (x.ev r).onAgg none fun cs => some (.agg ((cs.drop off).take n)) := (rfl)
theorem on_agg {α : Type} (vs : List V) (d : α) (f : List V → α) : V.onAgg (.agg vs) d f = f vs := (rfl)
def lenSl (x : V) : Option V := (lenOne (.slice 0)).run x
theorem pv_lens {x : RX} : (G.len .slice x).pv P r h = lenSl (x.ev r) := (rfl)
theorem lens_sl (b : Pa) (off n c : Nat) : lenSl (.slice b off n c) = some (.int .i64 n) := (rfl)
theorem lens_g (b : Pa) (off n c : Nat) : lenSl (.gslice b off n c) = some (.int .i64 n) := (rfl)
theorem lens_t (b : Pa) (off n c : Nat) : lenSl (.tslice b off n c) = some (.int .i64 0) := (rfl)
theorem lens_nil : lenSl .nilslice = some (.int .i64 0) := (rfl)
def lenSt (x : V) : Option V := (lenOne .string).run x
theorem pv_lenst {x : RX} : (G.len .str x).pv P r h = lenSt (x.ev r) := (rfl)
theorem lenst_str (s : List UInt8) : lenSt (.str s) = some (.int .i64 s.length) := (rfl)
theorem pv_build {z : List V} {ps : List (Nat × Nat × RX)} : (G.build z ps).pv P r h = (match fillR z (evPs r ps) with
    | some cs => some (.agg cs)
    | none => none) := (rfl)
def iaV (n : Nat) (x i : V) : Option V := (indexSlice n).run x i
theorem pv_ia {n : Nat} {x i : RX} : (G.ia n x i).pv P r h = iaV n (x.ev r) (i.ev r) := (rfl)
theorem ia_sl (n : Nat) (b : Pa) (off len cap : Nat) (k : IntKind) (i : Int) : iaV n (.slice b off len cap) (.int k i) = if 0 ≤ i ∧ i < len then some (.ptr b (off + i.toNat * n)) else none := by
  simp only [iaV, indexSlice, V.onInt, inRange, leB_dec]
  by_cases h1 : 0 ≤ i <;> by_cases h2 : (len : Int) ≤ i <;> simp [h1, h2] <;> omega
theorem ia_g (n : Nat) (b : Pa) (off len cap : Nat) (k : IntKind) (i : Int) : iaV n (.gslice b off len cap) (.int k i) = if 0 ≤ i ∧ i < len then some (.ptr b (off + i.toNat * n)) else none := by
  simp only [iaV, indexSlice, V.onInt, inRange, leB_dec]
  by_cases h1 : 0 ≤ i <;> by_cases h2 : (len : Int) ≤ i <;> simp [h1, h2] <;> omega
def cvI (k : IntKind) (x : V) : Option V := x.onInt none fun _ n => some (.int k (k.wrap n))
theorem pv_cvi {k : IntKind} {x : RX} : (G.cv (.int k) x).pv P r h = cvI k (x.ev r) := (rfl)
theorem cvi_int (k k' : IntKind) (n : Int) : cvI k (.int k' n) = some (.int k (k.wrap n)) := (rfl)
end
end Go.Proofs.Ytkjifhoiiciblaa.Am

namespace Go.Proofs.Ytkjifhoiiciblaa.Am
open Go Go.RowKit
set_option linter.unusedVariables false

/-! Walks over a stack of what is left to do: no function stands in the goal but the last. -/
structure DS where
  all : List GO
  asks : List (Nat × List Nat)
  es : List EntF

def pushD (D : Option DS) (r : RF) (h : Heap) (v : V) : Option DS :=
  match D with
  | none => none
  | some d => some ⟨d.all, d.asks, d.es ++ [⟨r, h, v⟩]⟩

inductive KS where
  | os (D : Option DS) (os : List GO)
  | c (b : RC)
  | blk (id : Nat)

section
variable (P : Program)
noncomputable def asksD (D : Option DS) (es : List EntF) (hf : Heap) : Prop :=
  match D with
  | none => True
  | some d => asksP P d.all (d.es ++ es) hf d.asks
noncomputable def wpK : List KS → Ex → RF → Heap → (Ex → RF → Heap → Prop) → Prop
  | [], e, r, h, Q => Q e r h
  | .os D os :: ks, e, r, h, Q => match e with
    | .normal => wpD P os r h fun es r' h' => asksD P D es h' ∧ wpK ks .normal r' h' Q
    | e => wpK ks e r h Q
  | .c b :: ks, e, r, h, Q => match e with
    | .normal => wpC P b r h fun e r' h' => wpK ks e r' h' Q
    | e => wpK ks e r h Q
  | .blk id :: ks, e, r, h, Q => wpK ks (e.leave id) r h Q

/-- a value is laid into its slot, and on -/
noncomputable def stepV (o : Option V) (d : Option Nat) (D : Option DS) (os : List GO) (ks : List KS) (r : RF) (h : Heap) (Q : Ex → RF → Heap → Prop) : Prop :=
  withO o fun v => wpK P (.os (pushD D r h v) os :: ks) .normal (r.set d v) h Q
noncomputable def stepO (o : OR) (d : Option Nat) (D : Option DS) (os : List GO) (ks : List KS) (r : RF) (h0 : Heap) (Q : Ex → RF → Heap → Prop) : Prop :=
  match o with
  | .val v h => wpK P (.os (pushD D r h0 v) os :: ks) .normal (r.set d v) h Q
  | .fail => False
noncomputable def gateK (v : V) (want : Bool) (d : Option Nat) (g : G) (rs : List Nat) (D : Option DS) (os : List GO) (ks : List KS) (r : RF) (h : Heap) (Q : Ex → RF → Heap → Prop) : Prop :=
  gate v want (wpK P (.os D (⟨d, g, none, rs⟩ :: os) :: ks) .normal r h Q) (wpK P (.os (pushD D r h (.tuple [])) os :: ks) .normal (r.set d (.tuple [])) h Q)
noncomputable def condK (v : V) (a b : RC) (ks : List KS) (r : RF) (h : Heap) (Q : Ex → RF → Heap → Prop) : Prop :=
  match v with
  | .bool t => (t = true → wpK P (.c a :: ks) .normal r h Q) ∧ (t = false → wpK P (.c b :: ks) .normal r h Q)
  | _ => False
noncomputable def callK (f : FuncId) (args : List V) (d : Option Nat) (D : Option DS) (os : List GO) (ks : List KS) (r : RF) (h : Heap) (Q : Ex → RF → Heap → Prop) : Prop :=
  Ctr P f args h fun v h' => wpK P (.os (pushD D r h v) os :: ks) .normal (r.set d v) h' Q
noncomputable def callvK (f : V) (args : List V) (d : Option Nat) (D : Option DS) (os : List GO) (ks : List KS) (r : RF) (h : Heap) (Q : Ex → RF → Heap → Prop) : Prop :=
  ∃ g cs, f = .func g cs ∧ callK P g (args ++ cs) d D os ks r h Q
noncomputable def loopK (b : RC) (ks : List KS) (r : RF) (h : Heap) (Q : Ex → RF → Heap → Prop) : Prop := wpC P (.loop b) r h fun e r' h' => wpK P ks e r' h' Q
end

section
variable {P : Program} {r : RF} {h : Heap} {Q : Ex → RF → Heap → Prop} {ks : List KS} {os : List GO} {D : Option DS}

theorem pushD_none (r : RF) (h : Heap) (v : V) : pushD none r h v = none := (rfl)
theorem pushD_some (all : List GO) (asks : List (Nat × List Nat)) (es : List EntF) (r : RF) (h : Heap) (v : V) : pushD (some ⟨all, asks, es⟩) r h v = some ⟨all, asks, es ++ [⟨r, h, v⟩]⟩ := (rfl)
theorem wpK_of {c : RC} (H : wpK P [.c c] .normal r h Q) : wpC P c r h Q := H

theorem k_nil {e : Ex} : wpK P [] e r h Q = Q e r h := (rfl)
theorem k_blk {e : Ex} {id : Nat} : wpK P (.blk id :: ks) e r h Q = wpK P ks (e.leave id) r h Q := (rfl)
theorem k_seq {a b : RC} : wpK P (.c (.seq a b) :: ks) .normal r h Q = wpK P (.c a :: .c b :: ks) .normal r h Q := by
  simp only [wpK]
  rw [c_seq]
  congr 1
  funext e r' h'
  cases e <;> rfl
theorem k_block {id : Nat} {b : RC} : wpK P (.c (.block id b) :: ks) .normal r h Q = wpK P (.c b :: .blk id :: ks) .normal r h Q := (rfl)
theorem wpD_os : ∀ (os : List GO) (r : RF) (h : Heap) (K : RF → Heap → Prop), wpD P os r h (fun _ r h => K r h) = wpOs P os r h K
  | [], _, _, _ => rfl
  | o :: os, r, h, K => by
    simp only [wpD, wpOs]
    congr 1
    funext r' v h'
    exact wpD_os os r' h' K
theorem k_reg {ops : List GO} : wpK P (.c (.reg ops) :: ks) .normal r h Q = wpK P (.os none ops :: ks) .normal r h Q := by
  simp only [wpK, asksD, true_and]
  rw [wpD_os, c_reg]
theorem k_skip : wpK P (.c .skip :: ks) .normal r h Q = wpK P ks .normal r h Q := (rfl)
theorem k_ret : wpK P (.c .ret :: ks) .normal r h Q = wpK P ks .ret r h Q := (rfl)
theorem k_exit {i : Nat} : wpK P (.c (.exit i) :: ks) .normal r h Q = wpK P ks (.exit i) r h Q := (rfl)
theorem k_cret {b : RC} : wpK P (.c b :: ks) .ret r h Q = wpK P ks .ret r h Q := (rfl)
theorem k_cexit {b : RC} {i : Nat} : wpK P (.c b :: ks) (.exit i) r h Q = wpK P ks (.exit i) r h Q := (rfl)
theorem k_cond {c : RX} {a b : RC} : wpK P (.c (.cond c a b) :: ks) .normal r h Q = condK P (c.ev r) a b ks r h Q := by
  simp only [wpK, wpC]
  cases c.ev r <;> rfl
theorem k_loop {b : RC} : wpK P (.c (.loop b) :: ks) .normal r h Q = loopK P b ks r h Q := (rfl)
theorem k_draw {ops : List GO} {asks : List (Nat × List Nat)} : wpK P (.c (.draw ops asks) :: ks) .normal r h Q = wpK P (.os (some ⟨ops, asks, []⟩) ops :: ks) .normal r h Q := (rfl)
theorem k_osnil : wpK P (.os none [] :: ks) .normal r h Q = wpK P ks .normal r h Q := by
  simp only [wpK, wpD, asksD, true_and]
theorem k_dnil {all : List GO} {asks : List (Nat × List Nat)} {es : List EntF} : wpK P (.os (some ⟨all, asks, es⟩) [] :: ks) .normal r h Q = (asksP P all es h asks ∧ wpK P ks .normal r h Q) := by
  simp only [wpK, wpD, asksD, List.append_nil]
theorem asksD_push (D : Option DS) (r : RF) (h : Heap) (v : V) (es : List EntF) (hf : Heap) : asksD P (pushD D r h v) es hf = asksD P D (⟨r, h, v⟩ :: es) hf := by
  cases D with
  | none => rfl
  | some d => simp only [pushD, asksD, List.append_assoc, List.cons_append, List.nil_append]
theorem k_pure {d : Option Nat} {g : G} {rs : List Nat} (hp : g.isPure = true) : wpK P (.os D (⟨d, g, none, rs⟩ :: os) :: ks) .normal r h Q = stepV P (g.pv P (r.trim rs) h) d D os ks r h Q := by
  simp only [wpK, wpD, stepV]
  rw [o_pure hp]
  simp only [asksD_push]
def optO (c : Bool) (o : Option V) : Option V := some (V.opt c (o.getD .bad))
theorem optO_some (c : Bool) (v : V) : optO c (some v) = some (V.opt c v) := (rfl)
theorem k_gpure {d : Option Nat} {g : G} {j : Nat} {want : Bool} {rs : List Nat} (hp : g.isPure = true) : wpK P (.os D (⟨d, g, some (j, want), rs⟩ :: os) :: ks) .normal r h Q =
    (isGate (r.trim rs j) ∧ Imp (took (r.trim rs j) want) ((g.pv P (r.trim rs) h).isSome = true) ∧
      stepV P (some (V.opt (took (r.trim rs j) want) ((g.pv P (r.trim rs) h).getD .bad))) d D os ks r h Q) := by
  simp only [wpK, wpD, stepV, withO]
  rw [o_gpure hp]
  simp only [asksD_push]
def G.isCall : G → Bool
  | .call .. | .callv .. => true
  | _ => false
theorem k_run {d : Option Nat} {g : G} {rs : List Nat} (hp : g.isPure = false) (hc : g.isCall = false) : wpK P (.os D (⟨d, g, none, rs⟩ :: os) :: ks) .normal r h Q = stepO P (g.run P nocall (r.trim rs) h) d D os ks r h Q := by
  simp only [wpK, wpD]
  rw [o_plain]
  have e : ∀ K : V → Heap → Prop, g.wp P (r.trim rs) h K = ∃ v h', g.run P nocall (r.trim rs) h = .val v h' ∧ K v h' := by
    intro K
    cases g <;> first | rfl | (simp [G.isCall] at hc; done)
  rw [e]
  unfold stepO
  simp only [wpK, asksD_push]
  cases g.run P nocall (r.trim rs) h with
  | fail => exact propext ⟨fun ⟨v, h', q, _⟩ => (by cases q), fun q => q.elim⟩
  | val v1 h1 =>
    apply propext
    constructor
    · rintro ⟨v, h', q, k⟩
      simp only [OR.val.injEq] at q
      obtain ⟨rfl, rfl⟩ := q
      exact k
    · intro k
      exact ⟨_, _, rfl, k⟩
theorem k_gate {d : Option Nat} {g : G} {j : Nat} {want : Bool} {rs : List Nat} (hp : g.isPure = false) : wpK P (.os D (⟨d, g, some (j, want), rs⟩ :: os) :: ks) .normal r h Q = gateK P (r.trim rs j) want d g rs D os ks r h Q := by
  simp only [gateK, wpK, wpD, asksD_push]
  rw [o_gate]
  rfl
theorem k_call {d : Option Nat} {f : FuncId} {args : List RX} {rs : List Nat} : wpK P (.os D (⟨d, .call f args, none, rs⟩ :: os) :: ks) .normal r h Q = callK P f (RX.evs (r.trim rs) args) d D os ks r h Q := by
  simp only [callK, wpK, wpD, asksD_push]
  rfl
theorem k_callv {d : Option Nat} {f : RX} {args : List RX} {rs : List Nat} : wpK P (.os D (⟨d, .callv f args, none, rs⟩ :: os) :: ks) .normal r h Q = callvK P (f.ev (r.trim rs)) (RX.evs (r.trim rs) args) d D os ks r h Q := by
  simp only [callvK, callK, wpK, wpD, asksD_push]
  rfl
theorem callv_func {g : FuncId} {cs args : List V} {d : Option Nat} : callvK P (.func g cs) args d D os ks r h Q = callK P g (args ++ cs) d D os ks r h Q := by
  apply propext
  constructor
  · rintro ⟨g', cs', q, k⟩
    simp only [V.func.injEq] at q
    obtain ⟨rfl, rfl⟩ := q
    exact k
  · intro k
    exact ⟨_, _, rfl, k⟩

@[congr] theorem stepV_congr {o o' : Option V} {d : Option Nat} (e : o = o') : stepV P o d D os ks r h Q = stepV P o' d D os ks r h Q := by rw [e]
@[congr] theorem stepO_congr {o o' : OR} {d : Option Nat} (e : o = o') : stepO P o d D os ks r h Q = stepO P o' d D os ks r h Q := by rw [e]
@[congr] theorem condK_congr {v v' : V} {a b : RC} (e : v = v') : condK P v a b ks r h Q = condK P v' a b ks r h Q := by rw [e]
@[congr] theorem gateK_congr {v v' : V} {want : Bool} {d : Option Nat} {g : G} {rs : List Nat} (e : v = v') : gateK P v want d g rs D os ks r h Q = gateK P v' want d g rs D os ks r h Q := by rw [e]
@[congr] theorem callvK_congr {f f' : V} {args args' : List V} {d : Option Nat} (e1 : f = f') (e2 : args = args') : callvK P f args d D os ks r h Q = callvK P f' args' d D os ks r h Q := by rw [e1, e2]
@[congr] theorem callK_congr {f : FuncId} {args args' : List V} {d : Option Nat} (e2 : args = args') : callK P f args d D os ks r h Q = callK P f args' d D os ks r h Q := by rw [e2]
@[congr] theorem wpK_congr {e e' : Ex} {r' : RF} {h' : Heap} (e0 : e = e') (e1 : r = r') (e2 : h = h') : wpK P ks e r h Q = wpK P ks e' r' h' Q := by rw [e0, e1, e2]
@[congr] theorem loopK_congr {b : RC} {r' : RF} {h' : Heap} (e1 : r = r') (e2 : h = h') : loopK P b ks r h Q = loopK P b ks r' h' Q := by rw [e1, e2]

theorem sv_some {v : V} {d : Option Nat} : stepV P (some v) d D os ks r h Q = wpK P (.os (pushD D r h v) os :: ks) .normal (r.set d v) h Q := (rfl)
theorem so_val {v : V} {h' : Heap} {d : Option Nat} : stepO P (.val v h') d D os ks r h Q = wpK P (.os (pushD D r h v) os :: ks) .normal (r.set d v) h' Q := (rfl)
theorem condK_bool {t : Bool} {a b : RC} : condK P (.bool t) a b ks r h Q = ((t = true → wpK P (.c a :: ks) .normal r h Q) ∧ (t = false → wpK P (.c b :: ks) .normal r h Q)) := (rfl)
theorem gateK_t {b : Bool} {d : Option Nat} {g : G} {rs : List Nat} : gateK P (.bool b) true d g rs D os ks r h Q = ((b = true → wpK P (.os D (⟨d, g, none, rs⟩ :: os) :: ks) .normal r h Q) ∧ (b = false → wpK P (.os (pushD D r h (.tuple [])) os :: ks) .normal (r.set d (.tuple [])) h Q)) := (rfl)
theorem gateK_f {b : Bool} {d : Option Nat} {g : G} {rs : List Nat} : gateK P (.bool b) false d g rs D os ks r h Q = ((b = false → wpK P (.os D (⟨d, g, none, rs⟩ :: os) :: ks) .normal r h Q) ∧ (b = true → wpK P (.os (pushD D r h (.tuple [])) os :: ks) .normal (r.set d (.tuple [])) h Q)) := (rfl)
theorem gateK_tuple {vs : List V} {want : Bool} {d : Option Nat} {g : G} {rs : List Nat} : gateK P (.tuple vs) want d g rs D os ks r h Q = wpK P (.os (pushD D r h (.tuple [])) os :: ks) .normal (r.set d (.tuple [])) h Q := (rfl)

/-- a gated call that turns no memory -/
theorem gateK_call {c b : Bool} {want : Bool} {d : Option Nat} {f : FuncId} {args : List RX} {rs : List Nat} (v : V)
    (hv : (c && (b == want)) = true → CallsV P f (RX.evs (r.trim rs) args) h v h)
    (H : wpK P (.os (pushD D r h (V.opt (c && (b == want)) v)) os :: ks) .normal (r.set d (V.opt (c && (b == want)) v)) h Q) : gateK P (V.opt c (.bool b)) want d (.call f args) rs D os ks r h Q := by
  unfold gateK
  rw [k_call]
  cases c with
  | false => exact H
  | true =>
    simp only [V.opt, cond_true, Bool.true_and] at hv H ⊢
    cases b <;> cases want <;> simp only [gate]
    · exact ⟨fun _ => ⟨v, h, hv rfl, H⟩, fun e => by cases e⟩
    · exact ⟨fun e => (by cases e), fun _ => H⟩
    · exact ⟨fun e => (by cases e), fun _ => H⟩
    · exact ⟨fun _ => ⟨v, h, hv rfl, H⟩, fun e => by cases e⟩

/-! What turns the memory. -/
def orH (v : V) (o : Option Heap) : OR := orHeap v o
theorem orH_some (v : V) (h' : Heap) : orH v (some h') = .val v h' := (rfl)
theorem run_new {z : List V} : (G.new z).run P nocall r h = orH (.ptr (pa h.next) 0) (newCells h z) := (rfl)
def boxO (b : Bool) (o : OR) : OR := bif b then o else .fail
theorem boxO_true (o : OR) : boxO true o = o := (rfl)
theorem run_box {x : RX} : (G.box x).run P nocall r h = boxO (x.ev r).good (orH (.ptr (pa h.next) 0) (newCells h (x.ev r).cells)) := (rfl)
theorem run_st {n : Nat} {x y : RX} : (G.st n x y).run P nocall r h = orH .bad (storeV n h (x.ev r) (y.ev r)) := (rfl)
noncomputable def bslO (n : Nat) (h : Heap) (o : Option (List V)) : OR :=
  match o with
  | some cs => orH (.slice (pa h.next) 0 n n) (newCells h cs)
  | none => .fail
theorem bslO_some (n : Nat) (cs : List V) : bslO n h (some cs) = orH (.slice (pa h.next) 0 n n) (newCells h cs) := (rfl)
theorem run_bsl {n size : Nat} {z : List V} {ps : List (Nat × Nat × RX)} : (G.bsl n size z ps).run P nocall r h = bslO n h (fillR (repeatV z n) (evPs r ps)) := by
  simp only [G.run]
  cases fillR (repeatV z n) (evPs r ps) with
  | none => rfl
  | some cs =>
    simp only [bslO, orH, orHeap]
    cases newCells h cs <;> rfl
theorem run_app {n : Nat} {s x : RX} : (G.app n s x).run P nocall r h = appV n (s.ev r) (x.ev r) h := (rfl)
theorem run_copy {n : Nat} {d s : RX} : (G.copy n d s).run P nocall r h = copyV n (d.ev r) (s.ev r) h := (rfl)
theorem fill_nil (cells : List V) : fillR cells [] = some cells := (rfl)
theorem fill_cons {cells : List V} {off size : Nat} {v : V} {rest : List (Nat × Nat × V)} (h1 : v.good = true) (h2 : v.cells.length = size) (h3 : off + size ≤ cells.length) :
    fillR cells ((off, size, v) :: rest) = fillR (spl cells off v.cells) rest := by
  simp only [fillR]
  rw [h1, show Nat.beq v.cells.length size = true from by rw [Nat.beq_eq]; exact h2, show Nat.ble (off + v.cells.length) cells.length = true from by rw [Nat.ble_eq, h2]; exact h3]
  simp only [Bool.and_true, cond_true]
  congr 1
  have fa : ∀ (ws cs : List V) (o : Nat), o + ws.length ≤ cs.length → fillAt cs o ws = splice cs o ws := by
    intro ws
    induction ws with
    | nil => intro cs o _; simp [fillAt, splice]
    | cons w ws ih =>
      intro cs o ho
      simp only [List.length_cons] at ho
      simp only [fillAt]
      rw [ih (cs.set o w) (o + 1) (by simp; omega), set_splice cs o w ws (by omega)]
  rw [fa _ _ _ (by rw [h2]; exact h3), spl_eq _ _ _ (by rw [h2]; exact h3)]
def buildO (o : Option (List V)) : Option V :=
  match o with
  | some cs => some (.agg cs)
  | none => none
theorem buildO_some (cs : List V) : buildO (some cs) = some (.agg cs) := (rfl)
theorem pv_bld {z : List V} {ps : List (Nat × Nat × RX)} : (G.build z ps).pv P r h = buildO (fillR z (evPs r ps)) := (rfl)
theorem evPs_nil : evPs r [] = [] := (rfl)
theorem evPs_cons {o s : Nat} {x : RX} {ps : List (Nat × Nat × RX)} : evPs r ((o, s, x) :: ps) = (o, s, x.ev r) :: evPs r ps := (rfl)

/-! What is asked again. -/
noncomputable def askK (P : Program) (o : GO) (e : EntF) (H : Heap) : Prop := o.wp P e.r H fun _ v' _ => v' = e.v
theorem asks_nil {ops : List GO} {es : List EntF} {hf : Heap} : asksP P ops es hf [] = True := (rfl)
theorem asks_cons {ops : List GO} {es : List EntF} {hf : Heap} {p : Nat} {ss : List Nat} {rest : List (Nat × List Nat)} : asksP P ops es hf ((p, ss) :: rest) = (askP P ops[p]? es[p]? es hf ss ∧ asksP P ops es hf rest) := (rfl)
theorem ask_nil {o : Option GO} {e : Option EntF} {es : List EntF} {hf : Heap} : askP P o e es hf [] = True := (rfl)
theorem ask_cons {o : GO} {e : EntF} {es : List EntF} {hf : Heap} {s : Nat} {ss : List Nat} : askP P (some o) (some e) es hf (s :: ss) = (askK P o e (heapF es hf s) ∧ askP P (some o) (some e) es hf ss) := (rfl)
def heapO (o : Option EntF) (hf : Heap) : Heap :=
  match o with
  | some e => e.h
  | none => hf
theorem heapF_o (es : List EntF) (hf : Heap) (s : Nat) : heapF es hf s = heapO es[s]? hf := (rfl)
theorem heapO_some (e : EntF) (hf : Heap) : heapO (some e) hf = e.h := (rfl)
theorem heapO_none (hf : Heap) : heapO none hf = hf := (rfl)
theorem ask_pure {d : Option Nat} {g : G} {rs : List Nat} {e : EntF} {H : Heap} (hp : g.isPure = true) : askK P ⟨d, g, none, rs⟩ e H = (g.pv P (e.r.trim rs) H = some e.v) := by
  unfold askK
  rw [o_pure hp]
  apply propext
  cases g.pv P (e.r.trim rs) H with
  | none => exact ⟨fun q => q.elim, fun q => (by cases q)⟩
  | some v => exact ⟨fun q => by rw [show v = e.v from q], fun q => by cases q; rfl⟩
theorem ask_gpure {d : Option Nat} {g : G} {j : Nat} {want : Bool} {rs : List Nat} {e : EntF} {H : Heap} (hp : g.isPure = true) : askK P ⟨d, g, some (j, want), rs⟩ e H =
    (isGate (e.r.trim rs j) ∧ Imp (took (e.r.trim rs j) want) ((g.pv P (e.r.trim rs) H).isSome = true) ∧ V.opt (took (e.r.trim rs j) want) ((g.pv P (e.r.trim rs) H).getD .bad) = e.v) := by
  unfold askK
  rw [o_gpure hp]
theorem ask_ld1 {d : Option Nat} {x : RX} {rs : List Nat} {e : EntF} {H : Heap} : askK P ⟨d, .ld1 x, none, rs⟩ e H = (loadOne H (x.ev (e.r.trim rs)) = some e.v) := ask_pure rfl
theorem ask_ldn {d : Option Nat} {n : Nat} {x : RX} {rs : List Nat} {e : EntF} {H : Heap} : askK P ⟨d, .ldn n x, none, rs⟩ e H = (loadMany n H (x.ev (e.r.trim rs)) = some e.v) := ask_pure rfl
theorem ask_look {d : Option Nat} {k : KK} {z : V} {ok : Bool} {x i : RX} {rs : List Nat} {e : EntF} {H : Heap} : askK P ⟨d, .look k z ok x i, none, rs⟩ e H = (lookupV k.eq z ok H (x.ev (e.r.trim rs)) (i.ev (e.r.trim rs)) = some e.v) := ask_pure rfl
theorem askg_ld1 {d : Option Nat} {x : RX} {j : Nat} {want : Bool} {rs : List Nat} {e : EntF} {H : Heap} : askK P ⟨d, .ld1 x, some (j, want), rs⟩ e H =
    (isGate (e.r.trim rs j) ∧ Imp (took (e.r.trim rs j) want) ((loadOne H (x.ev (e.r.trim rs))).isSome = true) ∧ V.opt (took (e.r.trim rs j) want) ((loadOne H (x.ev (e.r.trim rs))).getD .bad) = e.v) := ask_gpure rfl
theorem askg_ldn {d : Option Nat} {n : Nat} {x : RX} {j : Nat} {want : Bool} {rs : List Nat} {e : EntF} {H : Heap} : askK P ⟨d, .ldn n x, some (j, want), rs⟩ e H =
    (isGate (e.r.trim rs j) ∧ Imp (took (e.r.trim rs j) want) ((loadMany n H (x.ev (e.r.trim rs))).isSome = true) ∧ V.opt (took (e.r.trim rs j) want) ((loadMany n H (x.ev (e.r.trim rs))).getD .bad) = e.v) := ask_gpure rfl
end
end Go.Proofs.Ytkjifhoiiciblaa.Am

namespace Go.Proofs.Ytkjifhoiiciblaa.Am
open Go Go.RowKit

/-! The steps, a kind of operation each (by a program: gen30.py). -/
noncomputable def rngO (x : V) (h : Heap) : OR :=
  match x with
  | .str s => .val (.ptr (pa h.next) 0) (h.new (.iter s 0))
  | _ => .fail
theorem rngO_str (s : List UInt8) (h : Heap) : rngO (.str s) h = .val (.ptr (pa h.next) 0) (h.new (.iter s 0)) := (rfl)
section
variable {P : Program} {r : RF} {h : Heap} {Q : Ex → RF → Heap → Prop} {ks : List KS} {os : List GO} {D : Option DS} {d : Option Nat} {rs : List Nat}

theorem k_mv {x : RX} : wpK P (.os D (⟨d, (.mv x), none, rs⟩ :: os) :: ks) .normal r h Q = stepV P (some (x.ev (r.trim rs))) d D os ks r h Q := k_pure rfl
theorem kg_mv {x : RX} {j : Nat} {want : Bool} : wpK P (.os D (⟨d, (.mv x), some (j, want), rs⟩ :: os) :: ks) .normal r h Q = (isGate (r.trim rs j) ∧ Imp (took (r.trim rs j) want) ((some (x.ev (r.trim rs))).isSome = true) ∧ stepV P (some (V.opt (took (r.trim rs j) want) ((some (x.ev (r.trim rs))).getD .bad))) d D os ks r h Q) := k_gpure rfl
theorem k_pick {c a b : RX} : wpK P (.os D (⟨d, (.pick c a b), none, rs⟩ :: os) :: ks) .normal r h Q = stepV P (pickB (c.ev (r.trim rs)) (a.ev (r.trim rs)) (b.ev (r.trim rs))) d D os ks r h Q := k_pure rfl
theorem kg_pick {c a b : RX} {j : Nat} {want : Bool} : wpK P (.os D (⟨d, (.pick c a b), some (j, want), rs⟩ :: os) :: ks) .normal r h Q = (isGate (r.trim rs j) ∧ Imp (took (r.trim rs j) want) ((pickB (c.ev (r.trim rs)) (a.ev (r.trim rs)) (b.ev (r.trim rs))).isSome = true) ∧ stepV P (some (V.opt (took (r.trim rs j) want) ((pickB (c.ev (r.trim rs)) (a.ev (r.trim rs)) (b.ev (r.trim rs))).getD .bad))) d D os ks r h Q) := k_gpure rfl
theorem k_build {z : List V} {ps : List (Nat × Nat × RX)} : wpK P (.os D (⟨d, (.build z ps), none, rs⟩ :: os) :: ks) .normal r h Q = stepV P (buildO (fillR z (evPs (r.trim rs) ps))) d D os ks r h Q := k_pure rfl
theorem kg_build {z : List V} {ps : List (Nat × Nat × RX)} {j : Nat} {want : Bool} : wpK P (.os D (⟨d, (.build z ps), some (j, want), rs⟩ :: os) :: ks) .normal r h Q = (isGate (r.trim rs j) ∧ Imp (took (r.trim rs j) want) ((buildO (fillR z (evPs (r.trim rs) ps))).isSome = true) ∧ stepV P (some (V.opt (took (r.trim rs j) want) ((buildO (fillR z (evPs (r.trim rs) ps))).getD .bad))) d D os ks r h Q) := k_gpure rfl
theorem k_ld1 {x : RX} : wpK P (.os D (⟨d, (.ld1 x), none, rs⟩ :: os) :: ks) .normal r h Q = stepV P (loadOne h (x.ev (r.trim rs))) d D os ks r h Q := k_pure rfl
theorem kg_ld1 {x : RX} {j : Nat} {want : Bool} : wpK P (.os D (⟨d, (.ld1 x), some (j, want), rs⟩ :: os) :: ks) .normal r h Q = (isGate (r.trim rs j) ∧ Imp (took (r.trim rs j) want) ((loadOne h (x.ev (r.trim rs))).isSome = true) ∧ stepV P (some (V.opt (took (r.trim rs j) want) ((loadOne h (x.ev (r.trim rs))).getD .bad))) d D os ks r h Q) := k_gpure rfl
theorem k_ldn {n : Nat} {x : RX} : wpK P (.os D (⟨d, (.ldn n x), none, rs⟩ :: os) :: ks) .normal r h Q = stepV P (loadMany n h (x.ev (r.trim rs))) d D os ks r h Q := k_pure rfl
theorem kg_ldn {n : Nat} {x : RX} {j : Nat} {want : Bool} : wpK P (.os D (⟨d, (.ldn n x), some (j, want), rs⟩ :: os) :: ks) .normal r h Q = (isGate (r.trim rs j) ∧ Imp (took (r.trim rs j) want) ((loadMany n h (x.ev (r.trim rs))).isSome = true) ∧ stepV P (some (V.opt (took (r.trim rs j) want) ((loadMany n h (x.ev (r.trim rs))).getD .bad))) d D os ks r h Q) := k_gpure rfl
theorem k_nilck {x : RX} : wpK P (.os D (⟨d, (.nilck x), none, rs⟩ :: os) :: ks) .normal r h Q = stepV P (nilCheckV (x.ev (r.trim rs))) d D os ks r h Q := k_pure rfl
theorem kg_nilck {x : RX} {j : Nat} {want : Bool} : wpK P (.os D (⟨d, (.nilck x), some (j, want), rs⟩ :: os) :: ks) .normal r h Q = (isGate (r.trim rs j) ∧ Imp (took (r.trim rs j) want) ((nilCheckV (x.ev (r.trim rs))).isSome = true) ∧ stepV P (some (V.opt (took (r.trim rs j) want) ((nilCheckV (x.ev (r.trim rs))).getD .bad))) d D os ks r h Q) := k_gpure rfl
theorem k_bin {k : BK} {x y : RX} : wpK P (.os D (⟨d, (.bin k x y), none, rs⟩ :: os) :: ks) .normal r h Q = stepV P (k.run P (x.ev (r.trim rs)) (y.ev (r.trim rs))) d D os ks r h Q := k_pure rfl
theorem kg_bin {k : BK} {x y : RX} {j : Nat} {want : Bool} : wpK P (.os D (⟨d, (.bin k x y), some (j, want), rs⟩ :: os) :: ks) .normal r h Q = (isGate (r.trim rs j) ∧ Imp (took (r.trim rs j) want) ((k.run P (x.ev (r.trim rs)) (y.ev (r.trim rs))).isSome = true) ∧ stepV P (some (V.opt (took (r.trim rs j) want) ((k.run P (x.ev (r.trim rs)) (y.ev (r.trim rs))).getD .bad))) d D os ks r h Q) := k_gpure rfl
theorem k_un {o : UnOp} {x : RX} : wpK P (.os D (⟨d, (.un o x), none, rs⟩ :: os) :: ks) .normal r h Q = stepV P (unV o (x.ev (r.trim rs))) d D os ks r h Q := k_pure rfl
theorem kg_un {o : UnOp} {x : RX} {j : Nat} {want : Bool} : wpK P (.os D (⟨d, (.un o x), some (j, want), rs⟩ :: os) :: ks) .normal r h Q = (isGate (r.trim rs j) ∧ Imp (took (r.trim rs j) want) ((unV o (x.ev (r.trim rs))).isSome = true) ∧ stepV P (some (V.opt (took (r.trim rs j) want) ((unV o (x.ev (r.trim rs))).getD .bad))) d D os ks r h Q) := k_gpure rfl
theorem k_fn {f : FuncId} {cs : List RX} : wpK P (.os D (⟨d, (.fn f cs), none, rs⟩ :: os) :: ks) .normal r h Q = stepV P (some (V.func f (RX.evs (r.trim rs) cs))) d D os ks r h Q := k_pure rfl
theorem kg_fn {f : FuncId} {cs : List RX} {j : Nat} {want : Bool} : wpK P (.os D (⟨d, (.fn f cs), some (j, want), rs⟩ :: os) :: ks) .normal r h Q = (isGate (r.trim rs j) ∧ Imp (took (r.trim rs j) want) ((some (V.func f (RX.evs (r.trim rs) cs))).isSome = true) ∧ stepV P (some (V.opt (took (r.trim rs j) want) ((some (V.func f (RX.evs (r.trim rs) cs))).getD .bad))) d D os ks r h Q) := k_gpure rfl
theorem k_ifc {t : TypeId} {x : RX} : wpK P (.os D (⟨d, (.ifc t x), none, rs⟩ :: os) :: ks) .normal r h Q = stepV P (some (V.iface t (x.ev (r.trim rs)))) d D os ks r h Q := k_pure rfl
theorem kg_ifc {t : TypeId} {x : RX} {j : Nat} {want : Bool} : wpK P (.os D (⟨d, (.ifc t x), some (j, want), rs⟩ :: os) :: ks) .normal r h Q = (isGate (r.trim rs j) ∧ Imp (took (r.trim rs j) want) ((some (V.iface t (x.ev (r.trim rs)))).isSome = true) ∧ stepV P (some (V.opt (took (r.trim rs j) want) ((some (V.iface t (x.ev (r.trim rs)))).getD .bad))) d D os ks r h Q) := k_gpure rfl
theorem k_slstr {x : RX} {lo hi m3 : Option RX} : wpK P (.os D (⟨d, (.slstr x lo hi m3), none, rs⟩ :: os) :: ks) .normal r h Q = stepV P (sliceStr (x.ev (r.trim rs)) (RX.opt (r.trim rs) lo) (RX.opt (r.trim rs) hi) (RX.opt (r.trim rs) m3)) d D os ks r h Q := k_pure rfl
theorem kg_slstr {x : RX} {lo hi m3 : Option RX} {j : Nat} {want : Bool} : wpK P (.os D (⟨d, (.slstr x lo hi m3), some (j, want), rs⟩ :: os) :: ks) .normal r h Q = (isGate (r.trim rs j) ∧ Imp (took (r.trim rs j) want) ((sliceStr (x.ev (r.trim rs)) (RX.opt (r.trim rs) lo) (RX.opt (r.trim rs) hi) (RX.opt (r.trim rs) m3)).isSome = true) ∧ stepV P (some (V.opt (took (r.trim rs j) want) ((sliceStr (x.ev (r.trim rs)) (RX.opt (r.trim rs) lo) (RX.opt (r.trim rs) hi) (RX.opt (r.trim rs) m3)).getD .bad))) d D os ks r h Q) := k_gpure rfl
theorem k_sl {n : Nat} {x : RX} {lo hi m3 : Option RX} : wpK P (.os D (⟨d, (.sl n x lo hi m3), none, rs⟩ :: os) :: ks) .normal r h Q = stepV P (sliceV n (x.ev (r.trim rs)) (RX.opt (r.trim rs) lo) (RX.opt (r.trim rs) hi) (RX.opt (r.trim rs) m3)) d D os ks r h Q := k_pure rfl
theorem kg_sl {n : Nat} {x : RX} {lo hi m3 : Option RX} {j : Nat} {want : Bool} : wpK P (.os D (⟨d, (.sl n x lo hi m3), some (j, want), rs⟩ :: os) :: ks) .normal r h Q = (isGate (r.trim rs j) ∧ Imp (took (r.trim rs j) want) ((sliceV n (x.ev (r.trim rs)) (RX.opt (r.trim rs) lo) (RX.opt (r.trim rs) hi) (RX.opt (r.trim rs) m3)).isSome = true) ∧ stepV P (some (V.opt (took (r.trim rs j) want) ((sliceV n (x.ev (r.trim rs)) (RX.opt (r.trim rs) lo) (RX.opt (r.trim rs) hi) (RX.opt (r.trim rs) m3)).getD .bad))) d D os ks r h Q) := k_gpure rfl
theorem k_fa {o : Nat} {x : RX} : wpK P (.os D (⟨d, (.fa o x), none, rs⟩ :: os) :: ks) .normal r h Q = stepV P (faV o (x.ev (r.trim rs))) d D os ks r h Q := k_pure rfl
theorem kg_fa {o : Nat} {x : RX} {j : Nat} {want : Bool} : wpK P (.os D (⟨d, (.fa o x), some (j, want), rs⟩ :: os) :: ks) .normal r h Q = (isGate (r.trim rs j) ∧ Imp (took (r.trim rs j) want) ((faV o (x.ev (r.trim rs))).isSome = true) ∧ stepV P (some (V.opt (took (r.trim rs j) want) ((faV o (x.ev (r.trim rs))).getD .bad))) d D os ks r h Q) := k_gpure rfl
theorem k_fld1 {o : Nat} {x : RX} : wpK P (.os D (⟨d, (.fld1 o x), none, rs⟩ :: os) :: ks) .normal r h Q = stepV P ((x.ev (r.trim rs)).onAgg none fun cs => cs[o]?) d D os ks r h Q := k_pure rfl
theorem kg_fld1 {o : Nat} {x : RX} {j : Nat} {want : Bool} : wpK P (.os D (⟨d, (.fld1 o x), some (j, want), rs⟩ :: os) :: ks) .normal r h Q = (isGate (r.trim rs j) ∧ Imp (took (r.trim rs j) want) (((x.ev (r.trim rs)).onAgg none fun cs => cs[o]?).isSome = true) ∧ stepV P (some (V.opt (took (r.trim rs j) want) (((x.ev (r.trim rs)).onAgg none fun cs => cs[o]?).getD .bad))) d D os ks r h Q) := k_gpure rfl
theorem k_fldn {o n : Nat} {x : RX} : wpK P (.os D (⟨d, (.fldn o n x), none, rs⟩ :: os) :: ks) .normal r h Q = stepV P ((x.ev (r.trim rs)).onAgg none fun cs => some (V.agg ((cs.drop o).take n))) d D os ks r h Q := k_pure rfl
theorem kg_fldn {o n : Nat} {x : RX} {j : Nat} {want : Bool} : wpK P (.os D (⟨d, (.fldn o n x), some (j, want), rs⟩ :: os) :: ks) .normal r h Q = (isGate (r.trim rs j) ∧ Imp (took (r.trim rs j) want) (((x.ev (r.trim rs)).onAgg none fun cs => some (V.agg ((cs.drop o).take n))).isSome = true) ∧ stepV P (some (V.opt (took (r.trim rs j) want) (((x.ev (r.trim rs)).onAgg none fun cs => some (V.agg ((cs.drop o).take n))).getD .bad))) d D os ks r h Q) := k_gpure rfl
theorem k_ia {n : Nat} {x i : RX} : wpK P (.os D (⟨d, (.ia n x i), none, rs⟩ :: os) :: ks) .normal r h Q = stepV P (iaV n (x.ev (r.trim rs)) (i.ev (r.trim rs))) d D os ks r h Q := k_pure rfl
theorem kg_ia {n : Nat} {x i : RX} {j : Nat} {want : Bool} : wpK P (.os D (⟨d, (.ia n x i), some (j, want), rs⟩ :: os) :: ks) .normal r h Q = (isGate (r.trim rs j) ∧ Imp (took (r.trim rs j) want) ((iaV n (x.ev (r.trim rs)) (i.ev (r.trim rs))).isSome = true) ∧ stepV P (some (V.opt (took (r.trim rs j) want) ((iaV n (x.ev (r.trim rs)) (i.ev (r.trim rs))).getD .bad))) d D os ks r h Q) := k_gpure rfl
theorem k_iaa {m n : Nat} {x i : RX} : wpK P (.os D (⟨d, (.iaa m n x i), none, rs⟩ :: os) :: ks) .normal r h Q = stepV P ((indexArr m n).run (x.ev (r.trim rs)) (i.ev (r.trim rs))) d D os ks r h Q := k_pure rfl
theorem kg_iaa {m n : Nat} {x i : RX} {j : Nat} {want : Bool} : wpK P (.os D (⟨d, (.iaa m n x i), some (j, want), rs⟩ :: os) :: ks) .normal r h Q = (isGate (r.trim rs j) ∧ Imp (took (r.trim rs j) want) (((indexArr m n).run (x.ev (r.trim rs)) (i.ev (r.trim rs))).isSome = true) ∧ stepV P (some (V.opt (took (r.trim rs j) want) (((indexArr m n).run (x.ev (r.trim rs)) (i.ev (r.trim rs))).getD .bad))) d D os ks r h Q) := k_gpure rfl
theorem k_ixs {x i : RX} : wpK P (.os D (⟨d, (.ixs x i), none, rs⟩ :: os) :: ks) .normal r h Q = stepV P (indexStr.run (x.ev (r.trim rs)) (i.ev (r.trim rs))) d D os ks r h Q := k_pure rfl
theorem kg_ixs {x i : RX} {j : Nat} {want : Bool} : wpK P (.os D (⟨d, (.ixs x i), some (j, want), rs⟩ :: os) :: ks) .normal r h Q = (isGate (r.trim rs j) ∧ Imp (took (r.trim rs j) want) ((indexStr.run (x.ev (r.trim rs)) (i.ev (r.trim rs))).isSome = true) ∧ stepV P (some (V.opt (took (r.trim rs j) want) ((indexStr.run (x.ev (r.trim rs)) (i.ev (r.trim rs))).getD .bad))) d D os ks r h Q) := k_gpure rfl
theorem k_ix {t : TypeId} {x i : RX} : wpK P (.os D (⟨d, (.ix t x i), none, rs⟩ :: os) :: ks) .normal r h Q = stepV P ((indexC P t).run (x.ev (r.trim rs)) (i.ev (r.trim rs))) d D os ks r h Q := k_pure rfl
theorem kg_ix {t : TypeId} {x i : RX} {j : Nat} {want : Bool} : wpK P (.os D (⟨d, (.ix t x i), some (j, want), rs⟩ :: os) :: ks) .normal r h Q = (isGate (r.trim rs j) ∧ Imp (took (r.trim rs j) want) (((indexC P t).run (x.ev (r.trim rs)) (i.ev (r.trim rs))).isSome = true) ∧ stepV P (some (V.opt (took (r.trim rs j) want) (((indexC P t).run (x.ev (r.trim rs)) (i.ev (r.trim rs))).getD .bad))) d D os ks r h Q) := k_gpure rfl
theorem k_look {k : KK} {z : V} {ok : Bool} {x i : RX} : wpK P (.os D (⟨d, (.look k z ok x i), none, rs⟩ :: os) :: ks) .normal r h Q = stepV P (lookupV k.eq z ok h (x.ev (r.trim rs)) (i.ev (r.trim rs))) d D os ks r h Q := k_pure rfl
theorem kg_look {k : KK} {z : V} {ok : Bool} {x i : RX} {j : Nat} {want : Bool} : wpK P (.os D (⟨d, (.look k z ok x i), some (j, want), rs⟩ :: os) :: ks) .normal r h Q = (isGate (r.trim rs j) ∧ Imp (took (r.trim rs j) want) ((lookupV k.eq z ok h (x.ev (r.trim rs)) (i.ev (r.trim rs))).isSome = true) ∧ stepV P (some (V.opt (took (r.trim rs j) want) ((lookupV k.eq z ok h (x.ev (r.trim rs)) (i.ev (r.trim rs))).getD .bad))) d D os ks r h Q) := k_gpure rfl
theorem k_ext {x : RX} {i : Nat} : wpK P (.os D (⟨d, (.ext x i), none, rs⟩ :: os) :: ks) .normal r h Q = stepV P ((x.ev (r.trim rs)).onTup none fun vs => vs[i]?) d D os ks r h Q := k_pure rfl
theorem kg_ext {x : RX} {i : Nat} {j : Nat} {want : Bool} : wpK P (.os D (⟨d, (.ext x i), some (j, want), rs⟩ :: os) :: ks) .normal r h Q = (isGate (r.trim rs j) ∧ Imp (took (r.trim rs j) want) (((x.ev (r.trim rs)).onTup none fun vs => vs[i]?).isSome = true) ∧ stepV P (some (V.opt (took (r.trim rs j) want) (((x.ev (r.trim rs)).onTup none fun vs => vs[i]?).getD .bad))) d D os ks r h Q) := k_gpure rfl
theorem k_mn {args : List RX} : wpK P (.os D (⟨d, (.mn args), none, rs⟩ :: os) :: ks) .normal r h Q = stepV P (pickV (fun b a => !Int.leB a b) (RX.evs (r.trim rs) args)) d D os ks r h Q := k_pure rfl
theorem kg_mn {args : List RX} {j : Nat} {want : Bool} : wpK P (.os D (⟨d, (.mn args), some (j, want), rs⟩ :: os) :: ks) .normal r h Q = (isGate (r.trim rs j) ∧ Imp (took (r.trim rs j) want) ((pickV (fun b a => !Int.leB a b) (RX.evs (r.trim rs) args)).isSome = true) ∧ stepV P (some (V.opt (took (r.trim rs j) want) ((pickV (fun b a => !Int.leB a b) (RX.evs (r.trim rs) args)).getD .bad))) d D os ks r h Q) := k_gpure rfl
theorem k_mx {args : List RX} : wpK P (.os D (⟨d, (.mx args), none, rs⟩ :: os) :: ks) .normal r h Q = stepV P (pickV (fun b a => !Int.leB b a) (RX.evs (r.trim rs) args)) d D os ks r h Q := k_pure rfl
theorem kg_mx {args : List RX} {j : Nat} {want : Bool} : wpK P (.os D (⟨d, (.mx args), some (j, want), rs⟩ :: os) :: ks) .normal r h Q = (isGate (r.trim rs j) ∧ Imp (took (r.trim rs j) want) ((pickV (fun b a => !Int.leB b a) (RX.evs (r.trim rs) args)).isSome = true) ∧ stepV P (some (V.opt (took (r.trim rs j) want) ((pickV (fun b a => !Int.leB b a) (RX.evs (r.trim rs) args)).getD .bad))) d D os ks r h Q) := k_gpure rfl
theorem k_cvint {k : IntKind} {x : RX} : wpK P (.os D (⟨d, (.cv (.int k) x), none, rs⟩ :: os) :: ks) .normal r h Q = stepV P (cvI k (x.ev (r.trim rs))) d D os ks r h Q := k_pure rfl
theorem kg_cvint {k : IntKind} {x : RX} {j : Nat} {want : Bool} : wpK P (.os D (⟨d, (.cv (.int k) x), some (j, want), rs⟩ :: os) :: ks) .normal r h Q = (isGate (r.trim rs j) ∧ Imp (took (r.trim rs j) want) ((cvI k (x.ev (r.trim rs))).isSome = true) ∧ stepV P (some (V.opt (took (r.trim rs j) want) ((cvI k (x.ev (r.trim rs))).getD .bad))) d D os ks r h Q) := k_gpure rfl
theorem k_lenslice {x : RX} : wpK P (.os D (⟨d, (.len .slice x), none, rs⟩ :: os) :: ks) .normal r h Q = stepV P (lenSl (x.ev (r.trim rs))) d D os ks r h Q := k_pure rfl
theorem kg_lenslice {x : RX} {j : Nat} {want : Bool} : wpK P (.os D (⟨d, (.len .slice x), some (j, want), rs⟩ :: os) :: ks) .normal r h Q = (isGate (r.trim rs j) ∧ Imp (took (r.trim rs j) want) ((lenSl (x.ev (r.trim rs))).isSome = true) ∧ stepV P (some (V.opt (took (r.trim rs j) want) ((lenSl (x.ev (r.trim rs))).getD .bad))) d D os ks r h Q) := k_gpure rfl
theorem k_lenstr {x : RX} : wpK P (.os D (⟨d, (.len .str x), none, rs⟩ :: os) :: ks) .normal r h Q = stepV P (lenSt (x.ev (r.trim rs))) d D os ks r h Q := k_pure rfl
theorem kg_lenstr {x : RX} {j : Nat} {want : Bool} : wpK P (.os D (⟨d, (.len .str x), some (j, want), rs⟩ :: os) :: ks) .normal r h Q = (isGate (r.trim rs j) ∧ Imp (took (r.trim rs j) want) ((lenSt (x.ev (r.trim rs))).isSome = true) ∧ stepV P (some (V.opt (took (r.trim rs j) want) ((lenSt (x.ev (r.trim rs))).getD .bad))) d D os ks r h Q) := k_gpure rfl
theorem k_lenarr {n : Nat} {x : RX} : wpK P (.os D (⟨d, (.len (.arr n) x), none, rs⟩ :: os) :: ks) .normal r h Q = stepV P (some (V.int .i64 n)) d D os ks r h Q := k_pure rfl
theorem kg_lenarr {n : Nat} {x : RX} {j : Nat} {want : Bool} : wpK P (.os D (⟨d, (.len (.arr n) x), some (j, want), rs⟩ :: os) :: ks) .normal r h Q = (isGate (r.trim rs j) ∧ Imp (took (r.trim rs j) want) ((some (V.int .i64 n)).isSome = true) ∧ stepV P (some (V.opt (took (r.trim rs j) want) ((some (V.int .i64 n)).getD .bad))) d D os ks r h Q) := k_gpure rfl
theorem k_new {z : List V} : wpK P (.os D (⟨d, (.new z), none, rs⟩ :: os) :: ks) .normal r h Q = stepO P (orH (.ptr (pa h.next) 0) (newCells h z)) d D os ks r h Q := k_run rfl rfl
theorem kg_new {z : List V} {j : Nat} {want : Bool} : wpK P (.os D (⟨d, (.new z), some (j, want), rs⟩ :: os) :: ks) .normal r h Q = gateK P (r.trim rs j) want d (.new z) rs D os ks r h Q := k_gate rfl
theorem k_box {x : RX} : wpK P (.os D (⟨d, (.box x), none, rs⟩ :: os) :: ks) .normal r h Q = stepO P (boxO (x.ev (r.trim rs)).good (orH (.ptr (pa h.next) 0) (newCells h (x.ev (r.trim rs)).cells))) d D os ks r h Q := k_run rfl rfl
theorem kg_box {x : RX} {j : Nat} {want : Bool} : wpK P (.os D (⟨d, (.box x), some (j, want), rs⟩ :: os) :: ks) .normal r h Q = gateK P (r.trim rs j) want d (.box x) rs D os ks r h Q := k_gate rfl
theorem k_bsl {n m : Nat} {z : List V} {ps : List (Nat × Nat × RX)} : wpK P (.os D (⟨d, (.bsl n m z ps), none, rs⟩ :: os) :: ks) .normal r h Q = stepO P (bslO n h (fillR (repeatV z n) (evPs (r.trim rs) ps))) d D os ks r h Q := by rw [k_run rfl rfl, run_bsl]
theorem kg_bsl {n m : Nat} {z : List V} {ps : List (Nat × Nat × RX)} {j : Nat} {want : Bool} : wpK P (.os D (⟨d, (.bsl n m z ps), some (j, want), rs⟩ :: os) :: ks) .normal r h Q = gateK P (r.trim rs j) want d (.bsl n m z ps) rs D os ks r h Q := k_gate rfl
theorem k_st {n : Nat} {x y : RX} : wpK P (.os D (⟨d, (.st n x y), none, rs⟩ :: os) :: ks) .normal r h Q = stepO P (orH .bad (storeV n h (x.ev (r.trim rs)) (y.ev (r.trim rs)))) d D os ks r h Q := k_run rfl rfl
theorem kg_st {n : Nat} {x y : RX} {j : Nat} {want : Bool} : wpK P (.os D (⟨d, (.st n x y), some (j, want), rs⟩ :: os) :: ks) .normal r h Q = gateK P (r.trim rs j) want d (.st n x y) rs D os ks r h Q := k_gate rfl
theorem k_mksl {n : Nat} {z : List V} {l c : RX} : wpK P (.os D (⟨d, (.mksl n z l c), none, rs⟩ :: os) :: ks) .normal r h Q = stepO P (makeSliceV n z (l.ev (r.trim rs)) (c.ev (r.trim rs)) h) d D os ks r h Q := k_run rfl rfl
theorem kg_mksl {n : Nat} {z : List V} {l c : RX} {j : Nat} {want : Bool} : wpK P (.os D (⟨d, (.mksl n z l c), some (j, want), rs⟩ :: os) :: ks) .normal r h Q = gateK P (r.trim rs j) want d (.mksl n z l c) rs D os ks r h Q := k_gate rfl
theorem k_upd {k : KK} {m i x : RX} : wpK P (.os D (⟨d, (.upd k m i x), none, rs⟩ :: os) :: ks) .normal r h Q = stepO P (orH .bad (updV k.eq h (m.ev (r.trim rs)) (i.ev (r.trim rs)) (x.ev (r.trim rs)))) d D os ks r h Q := k_run rfl rfl
theorem kg_upd {k : KK} {m i x : RX} {j : Nat} {want : Bool} : wpK P (.os D (⟨d, (.upd k m i x), some (j, want), rs⟩ :: os) :: ks) .normal r h Q = gateK P (r.trim rs j) want d (.upd k m i x) rs D os ks r h Q := k_gate rfl
theorem k_mkm {x : Option RX} : wpK P (.os D (⟨d, (.mkm x), none, rs⟩ :: os) :: ks) .normal r h Q = stepO P (makeMapV (RX.opt (r.trim rs) x) h) d D os ks r h Q := k_run rfl rfl
theorem kg_mkm {x : Option RX} {j : Nat} {want : Bool} : wpK P (.os D (⟨d, (.mkm x), some (j, want), rs⟩ :: os) :: ks) .normal r h Q = gateK P (r.trim rs j) want d (.mkm x) rs D os ks r h Q := k_gate rfl
theorem k_rngs {x : RX} : wpK P (.os D (⟨d, (.rngs x), none, rs⟩ :: os) :: ks) .normal r h Q = stepO P (rngO (x.ev (r.trim rs)) h) d D os ks r h Q := by rw [k_run rfl rfl]; unfold rngO; simp only [G.run]; cases x.ev (r.trim rs) <;> rfl
theorem kg_rngs {x : RX} {j : Nat} {want : Bool} : wpK P (.os D (⟨d, (.rngs x), some (j, want), rs⟩ :: os) :: ks) .normal r h Q = gateK P (r.trim rs j) want d (.rngs x) rs D os ks r h Q := k_gate rfl
theorem k_nxt {x : RX} : wpK P (.os D (⟨d, (.nxt x), none, rs⟩ :: os) :: ks) .normal r h Q = stepO P (nextV (x.ev (r.trim rs)) h) d D os ks r h Q := k_run rfl rfl
theorem kg_nxt {x : RX} {j : Nat} {want : Bool} : wpK P (.os D (⟨d, (.nxt x), some (j, want), rs⟩ :: os) :: ks) .normal r h Q = gateK P (r.trim rs j) want d (.nxt x) rs D os ks r h Q := k_gate rfl
theorem k_app {n : Nat} {s x : RX} : wpK P (.os D (⟨d, (.app n s x), none, rs⟩ :: os) :: ks) .normal r h Q = stepO P (appV n (s.ev (r.trim rs)) (x.ev (r.trim rs)) h) d D os ks r h Q := k_run rfl rfl
theorem kg_app {n : Nat} {s x : RX} {j : Nat} {want : Bool} : wpK P (.os D (⟨d, (.app n s x), some (j, want), rs⟩ :: os) :: ks) .normal r h Q = gateK P (r.trim rs j) want d (.app n s x) rs D os ks r h Q := k_gate rfl
theorem k_copy {n : Nat} {d' s : RX} : wpK P (.os D (⟨d, (.copy n d' s), none, rs⟩ :: os) :: ks) .normal r h Q = stepO P (copyV n (d'.ev (r.trim rs)) (s.ev (r.trim rs)) h) d D os ks r h Q := k_run rfl rfl
theorem kg_copy {n : Nat} {d' s : RX} {j : Nat} {want : Bool} : wpK P (.os D (⟨d, (.copy n d' s), some (j, want), rs⟩ :: os) :: ks) .normal r h Q = gateK P (r.trim rs j) want d (.copy n d' s) rs D os ks r h Q := k_gate rfl
theorem k_lenmap {x : RX} : wpK P (.os D (⟨d, (.len .map x), none, rs⟩ :: os) :: ks) .normal r h Q = stepO P (lenMap [x.ev (r.trim rs)] h) d D os ks r h Q := k_run rfl rfl
theorem kg_lenmap {x : RX} {j : Nat} {want : Bool} : wpK P (.os D (⟨d, (.len .map x), some (j, want), rs⟩ :: os) :: ks) .normal r h Q = gateK P (r.trim rs j) want d (.len .map x) rs D os ks r h Q := k_gate rfl
theorem k_cvbytes {x : RX} : wpK P (.os D (⟨d, (.cv .bytes x), none, rs⟩ :: os) :: ks) .normal r h Q = stepO P (convBytes.run (x.ev (r.trim rs)) h) d D os ks r h Q := k_run rfl rfl
theorem kg_cvbytes {x : RX} {j : Nat} {want : Bool} : wpK P (.os D (⟨d, (.cv .bytes x), some (j, want), rs⟩ :: os) :: ks) .normal r h Q = gateK P (r.trim rs j) want d (.cv .bytes x) rs D os ks r h Q := k_gate rfl
theorem k_cvstr {x : RX} : wpK P (.os D (⟨d, (.cv .str x), none, rs⟩ :: os) :: ks) .normal r h Q = stepO P (convStr.run (x.ev (r.trim rs)) h) d D os ks r h Q := k_run rfl rfl
theorem kg_cvstr {x : RX} {j : Nat} {want : Bool} : wpK P (.os D (⟨d, (.cv .str x), some (j, want), rs⟩ :: os) :: ks) .normal r h Q = gateK P (r.trim rs j) want d (.cv .str x) rs D os ks r h Q := k_gate rfl
theorem k_cvoth {s d' : TypeId} {x : RX} : wpK P (.os D (⟨d, (.cv (.other s d') x), none, rs⟩ :: os) :: ks) .normal r h Q = stepO P ((convC P s d').run (x.ev (r.trim rs)) h) d D os ks r h Q := k_run rfl rfl
theorem kg_cvoth {s d' : TypeId} {x : RX} {j : Nat} {want : Bool} : wpK P (.os D (⟨d, (.cv (.other s d') x), some (j, want), rs⟩ :: os) :: ks) .normal r h Q = gateK P (r.trim rs j) want d (.cv (.other s d') x) rs D os ks r h Q := k_gate rfl
theorem kg_call {f : FuncId} {args : List RX} {j : Nat} {want : Bool} : wpK P (.os D (⟨d, (.call f args), some (j, want), rs⟩ :: os) :: ks) .normal r h Q = gateK P (r.trim rs j) want d (.call f args) rs D os ks r h Q := k_gate rfl
theorem kg_callv {f : RX} {args : List RX} {j : Nat} {want : Bool} : wpK P (.os D (⟨d, (.callv f args), some (j, want), rs⟩ :: os) :: ks) .normal r h Q = gateK P (r.trim rs j) want d (.callv f args) rs D os ks r h Q := k_gate rfl
end
end Go.Proofs.Ytkjifhoiiciblaa.Am

namespace Go.Proofs.Ytkjifhoiiciblaa.Am
open Go Go.RowKit

theorem newCells_if (h : Heap) (vs : List V) : newCells h vs = if vs.length ≤ top then some (h.new (.ofL vs 0 false)) else none := by
  by_cases hl : vs.length ≤ top
  · rw [if_pos hl, newCells_eq hl]
  · rw [if_neg hl]
    unfold newCells
    rw [show Nat.ble vs.length top = false from by rw [← Bool.not_eq_true, Nat.ble_eq]; exact hl]
    rfl
theorem lay_if (h : Heap) (n : Nat) (b : Pa) (off : Nat) (y : V) (vs : List V) (esz : Nat) (st : Bool) :
    layB n h b off y (.ofL vs esz st) = if y.cells.length = n ∧ ones y.cells = true ∧ off + n ≤ vs.length then some (h.set b (.ofL (spl vs off y.cells) esz st)) else none := by
  by_cases hc : y.cells.length = n ∧ ones y.cells = true ∧ off + n ≤ vs.length
  · rw [if_pos hc, lay_ofL hc.1 hc.2.1 hc.2.2]
  · rw [if_neg hc]
    unfold layB
    by_cases h1 : y.cells.length = n
    · rw [show Nat.beq y.cells.length n = true from by rw [Nat.beq_eq]; exact h1]
      simp only [cond_true, Blk.ofL, Blk.on]
      by_cases h2 : ones y.cells = true
      · have h3 : ¬ off + y.cells.length ≤ vs.length := fun q => hc ⟨h1, h2, by omega⟩
        rw [show Nat.ble (off + y.cells.length) vs.length = false from by rw [← Bool.not_eq_true, Nat.ble_eq]; exact h3]
        rfl
      · rw [show ones y.cells = false from by simpa using h2, Bool.and_false]
        rfl
    · rw [show Nat.beq y.cells.length n = false from by rw [← Bool.not_eq_true, Nat.beq_eq]; exact h1]
      rfl
theorem fill_if (cells : List V) (off size : Nat) (v : V) (rest : List (Nat × Nat × V)) :
    fillR cells ((off, size, v) :: rest) = if v.good = true ∧ v.cells.length = size ∧ off + size ≤ cells.length then fillR (spl cells off v.cells) rest else none := by
  by_cases hc : v.good = true ∧ v.cells.length = size ∧ off + size ≤ cells.length
  · rw [if_pos hc, fill_cons hc.1 hc.2.1 hc.2.2]
  · rw [if_neg hc]
    simp only [fillR]
    cases hb : (v.good && (Nat.beq v.cells.length size && Nat.ble (off + v.cells.length) cells.length)) with
    | false => rfl
    | true =>
      simp only [Bool.and_eq_true, Nat.beq_eq, Nat.ble_eq] at hb
      exact absurd ⟨hb.1, hb.2.1, by omega⟩ hc

theorem cells_bool (b : Bool) : V.cells (.bool b : V) = [.bool b] := rfl
theorem one_bool (b : Bool) : V.one (.bool b : V) = true := rfl
theorem good_bool (b : Bool) : V.good (.bool b : V) = true := rfl
theorem cells_int (k : IntKind) (n : Int) : V.cells (.int k n : V) = [.int k n] := rfl
theorem one_int (k : IntKind) (n : Int) : V.one (.int k n : V) = true := rfl
theorem good_int (k : IntKind) (n : Int) : V.good (.int k n : V) = true := rfl
theorem cells_str (s : List UInt8) : V.cells (.str s : V) = [.str s] := rfl
theorem one_str (s : List UInt8) : V.one (.str s : V) = true := rfl
theorem good_str (s : List UInt8) : V.good (.str s : V) = true := rfl
theorem cells_nilptr : V.cells (.nilptr : V) = [.nilptr] := rfl
theorem one_nilptr  : V.one (.nilptr : V) = true := rfl
theorem good_nilptr  : V.good (.nilptr : V) = true := rfl
theorem cells_ptr (b : Pa) (o : Nat) : V.cells (.ptr b o : V) = [.ptr b o] := rfl
theorem one_ptr (b : Pa) (o : Nat) : V.one (.ptr b o : V) = true := rfl
theorem good_ptr (b : Pa) (o : Nat) : V.good (.ptr b o : V) = true := rfl
theorem cells_slice (b : Pa) (o l c : Nat) : V.cells (.slice b o l c : V) = [.slice b o l c] := rfl
theorem one_slice (b : Pa) (o l c : Nat) : V.one (.slice b o l c : V) = true := rfl
theorem good_slice (b : Pa) (o l c : Nat) : V.good (.slice b o l c : V) = true := rfl
theorem cells_gslice (b : Pa) (o l c : Nat) : V.cells (.gslice b o l c : V) = [.gslice b o l c] := rfl
theorem one_gslice (b : Pa) (o l c : Nat) : V.one (.gslice b o l c : V) = true := rfl
theorem good_gslice (b : Pa) (o l c : Nat) : V.good (.gslice b o l c : V) = true := rfl
theorem cells_tslice (b : Pa) (o l c : Nat) : V.cells (.tslice b o l c : V) = [.tslice b o l c] := rfl
theorem one_tslice (b : Pa) (o l c : Nat) : V.one (.tslice b o l c : V) = true := rfl
theorem good_tslice (b : Pa) (o l c : Nat) : V.good (.tslice b o l c : V) = true := rfl
theorem cells_nilslice : V.cells (.nilslice : V) = [.nilslice] := rfl
theorem one_nilslice  : V.one (.nilslice : V) = true := rfl
theorem good_nilslice  : V.good (.nilslice : V) = true := rfl
theorem cells_nilmap : V.cells (.nilmap : V) = [.nilmap] := rfl
theorem one_nilmap  : V.one (.nilmap : V) = true := rfl
theorem good_nilmap  : V.good (.nilmap : V) = true := rfl
theorem cells_map (b : Pa) : V.cells (.map b : V) = [.map b] := rfl
theorem one_map (b : Pa) : V.one (.map b : V) = true := rfl
theorem good_map (b : Pa) : V.good (.map b : V) = true := rfl
theorem cells_func (f : FuncId) (cs : List V) : V.cells (.func f cs : V) = [.func f cs] := rfl
theorem one_func (f : FuncId) (cs : List V) : V.one (.func f cs : V) = true := rfl
theorem good_func (f : FuncId) (cs : List V) : V.good (.func f cs : V) = true := rfl
theorem cells_nilfunc : V.cells (.nilfunc : V) = [.nilfunc] := rfl
theorem one_nilfunc  : V.one (.nilfunc : V) = true := rfl
theorem good_nilfunc  : V.good (.nilfunc : V) = true := rfl
theorem cells_iface (t : TypeId) (v : V) : V.cells (.iface t v : V) = [.iface t v] := rfl
theorem one_iface (t : TypeId) (v : V) : V.one (.iface t v : V) = true := rfl
theorem good_iface (t : TypeId) (v : V) : V.good (.iface t v : V) = true := rfl
theorem cells_nilIface : V.cells (.nilIface : V) = [.nilIface] := rfl
theorem one_nilIface  : V.one (.nilIface : V) = true := rfl
theorem good_nilIface  : V.good (.nilIface : V) = true := rfl
theorem cells_agg (cs : List V) : V.cells (.agg cs) = cs := rfl
theorem good_agg (cs : List V) : V.good (.agg cs) = true := rfl
theorem good_tuple (cs : List V) : V.good (.tuple cs) = true := rfl
theorem add11 (n : Nat) : n + 1 + 1 = n + 2 := rfl
theorem add21 (n : Nat) : n + 2 + 1 = n + 3 := rfl
theorem add31 (n : Nat) : n + 3 + 1 = n + 4 := rfl
theorem add41 (n : Nat) : n + 4 + 1 = n + 5 := rfl
theorem add51 (n : Nat) : n + 5 + 1 = n + 6 := rfl
theorem add61 (n : Nat) : n + 6 + 1 = n + 7 := rfl
theorem add71 (n : Nat) : n + 7 + 1 = n + 8 := rfl
theorem add81 (n : Nat) : n + 8 + 1 = n + 9 := rfl
theorem add91 (n : Nat) : n + 9 + 1 = n + 10 := rfl
theorem add101 (n : Nat) : n + 10 + 1 = n + 11 := rfl
theorem add111 (n : Nat) : n + 11 + 1 = n + 12 := rfl
theorem add121 (n : Nat) : n + 12 + 1 = n + 13 := rfl
theorem add131 (n : Nat) : n + 13 + 1 = n + 14 := rfl
theorem add141 (n : Nat) : n + 14 + 1 = n + 15 := rfl
theorem add151 (n : Nat) : n + 15 + 1 = n + 16 := rfl
theorem nx1 (n : Nat) : (n + 1 = n) = False := eq_false (by omega)
theorem xn1 (n : Nat) : (n = n + 1) = False := eq_false (by omega)
theorem nx2 (n : Nat) : (n + 2 = n) = False := eq_false (by omega)
theorem xn2 (n : Nat) : (n = n + 2) = False := eq_false (by omega)
theorem nx3 (n : Nat) : (n + 3 = n) = False := eq_false (by omega)
theorem xn3 (n : Nat) : (n = n + 3) = False := eq_false (by omega)
theorem nx4 (n : Nat) : (n + 4 = n) = False := eq_false (by omega)
theorem xn4 (n : Nat) : (n = n + 4) = False := eq_false (by omega)
theorem nx5 (n : Nat) : (n + 5 = n) = False := eq_false (by omega)
theorem xn5 (n : Nat) : (n = n + 5) = False := eq_false (by omega)
theorem nx6 (n : Nat) : (n + 6 = n) = False := eq_false (by omega)
theorem xn6 (n : Nat) : (n = n + 6) = False := eq_false (by omega)
theorem nx7 (n : Nat) : (n + 7 = n) = False := eq_false (by omega)
theorem xn7 (n : Nat) : (n = n + 7) = False := eq_false (by omega)
theorem nx8 (n : Nat) : (n + 8 = n) = False := eq_false (by omega)
theorem xn8 (n : Nat) : (n = n + 8) = False := eq_false (by omega)
theorem gateK_tt {P : Program} {r : RF} {h : Heap} {Q : Ex → RF → Heap → Prop} {ks : List KS} {os : List GO} {D : Option DS} {d : Option Nat} {g : G} {rs : List Nat} : gateK P (.bool true) true d g rs D os ks r h Q = wpK P (.os D (⟨d, g, none, rs⟩ :: os) :: ks) .normal r h Q := by
  rw [gateK_t]; simp
theorem gateK_ff {P : Program} {r : RF} {h : Heap} {Q : Ex → RF → Heap → Prop} {ks : List KS} {os : List GO} {D : Option DS} {d : Option Nat} {g : G} {rs : List Nat} : gateK P (.bool false) false d g rs D os ks r h Q = wpK P (.os D (⟨d, g, none, rs⟩ :: os) :: ks) .normal r h Q := by
  rw [gateK_f]; simp
theorem gateK_tf {P : Program} {r : RF} {h : Heap} {Q : Ex → RF → Heap → Prop} {ks : List KS} {os : List GO} {D : Option DS} {d : Option Nat} {g : G} {rs : List Nat} : gateK P (.bool true) false d g rs D os ks r h Q = wpK P (.os (pushD D r h (.tuple [])) os :: ks) .normal (r.set d (.tuple [])) h Q := by
  rw [gateK_f]; simp
theorem gateK_ft {P : Program} {r : RF} {h : Heap} {Q : Ex → RF → Heap → Prop} {ks : List KS} {os : List GO} {D : Option DS} {d : Option Nat} {g : G} {rs : List Nat} : gateK P (.bool false) true d g rs D os ks r h Q = wpK P (.os (pushD D r h (.tuple [])) os :: ks) .normal (r.set d (.tuple [])) h Q := by
  rw [gateK_t]; simp
theorem bif_optn (c : Bool) (a b : V) : V.bif (!c) a (V.opt c b) = V.bif (!c) a b := by cases c <;> rfl
theorem imp_T (A : Prop) : (True → A) = A := propext ⟨fun q => q trivial, fun q _ => q⟩
theorem imp_F (A : Prop) : (False → A) = True := propext ⟨fun _ => trivial, fun _ q => q.elim⟩

section
variable {P : Program}

theorem loopK_intro {b : RC} {ks : List KS} {r : RF} {h : Heap} {Q : Ex → RF → Heap → Prop} (I : RF → Heap → Prop) (μ : RF → Heap → Nat) (h0 : I r h)
    (step : ∀ r h, I r h → wpK P [.c b] .normal r h fun e r' h' => e.andThen (I r' h' ∧ μ r' h' < μ r h) (wpK P ks e r' h' Q)) : loopK P b ks r h Q :=
  ⟨I, μ, h0, step⟩

/-- a gated call that turns no memory -/
theorem gateK_call0 {b want : Bool} {d : Option Nat} {f : FuncId} {args : List RX} {rs : List Nat} {os : List GO} {D : Option DS} {ks : List KS} {r : RF} {h : Heap} {Q : Ex → RF → Heap → Prop} (v : V)
    (hv : (b == want) = true → CallsV P f (RX.evs (r.trim rs) args) h v h)
    (H : wpK P (.os (pushD D r h (V.opt (b == want) v)) os :: ks) .normal (r.set d (V.opt (b == want) v)) h Q) : gateK P (.bool b) want d (.call f args) rs D os ks r h Q := by
  have := gateK_call (P := P) (c := true) (b := b) (want := want) (d := d) (f := f) (args := args) (rs := rs) (D := D) (os := os) (ks := ks) (r := r) (h := h) (Q := Q) v
  simp only [V.opt, cond_true, Bool.true_and] at this
  exact this hv H

theorem gateK_callF {c b : Bool} {d : Option Nat} {f : FuncId} {args : List RX} {rs : List Nat} {os : List GO} {D : Option DS} {ks : List KS} {r : RF} {h : Heap} {Q : Ex → RF → Heap → Prop} (v : V)
    (hv : (c && !b) = true → CallsV P f (RX.evs (r.trim rs) args) h v h)
    (H : wpK P (.os (pushD D r h (V.opt (c && !b) v)) os :: ks) .normal (r.set d (V.opt (c && !b) v)) h Q) : gateK P (V.opt c (.bool b)) false d (.call f args) rs D os ks r h Q := by
  refine gateK_call v ?_ ?_ <;> rw [beq_false] <;> assumption
theorem gateK_callT {c b : Bool} {d : Option Nat} {f : FuncId} {args : List RX} {rs : List Nat} {os : List GO} {D : Option DS} {ks : List KS} {r : RF} {h : Heap} {Q : Ex → RF → Heap → Prop} (v : V)
    (hv : (c && b) = true → CallsV P f (RX.evs (r.trim rs) args) h v h)
    (H : wpK P (.os (pushD D r h (V.opt (c && b) v)) os :: ks) .normal (r.set d (V.opt (c && b) v)) h Q) : gateK P (V.opt c (.bool b)) true d (.call f args) rs D os ks r h Q := by
  refine gateK_call v ?_ ?_ <;> rw [beq_true] <;> assumption
theorem gateK_callF0 {b : Bool} {d : Option Nat} {f : FuncId} {args : List RX} {rs : List Nat} {os : List GO} {D : Option DS} {ks : List KS} {r : RF} {h : Heap} {Q : Ex → RF → Heap → Prop} (v : V)
    (hv : (!b) = true → CallsV P f (RX.evs (r.trim rs) args) h v h)
    (H : wpK P (.os (pushD D r h (V.opt (!b) v)) os :: ks) .normal (r.set d (V.opt (!b) v)) h Q) : gateK P (.bool b) false d (.call f args) rs D os ks r h Q := by
  refine gateK_call0 v ?_ ?_ <;> rw [beq_false] <;> assumption
theorem gateK_callT0 {b : Bool} {d : Option Nat} {f : FuncId} {args : List RX} {rs : List Nat} {os : List GO} {D : Option DS} {ks : List KS} {r : RF} {h : Heap} {Q : Ex → RF → Heap → Prop} (v : V)
    (hv : b = true → CallsV P f (RX.evs (r.trim rs) args) h v h)
    (H : wpK P (.os (pushD D r h (V.opt b v)) os :: ks) .normal (r.set d (V.opt b v)) h Q) : gateK P (.bool b) true d (.call f args) rs D os ks r h Q := by
  refine gateK_call0 v ?_ ?_ <;> rw [beq_true] <;> assumption

def V.toN : V → Nat
  | .int _ n => n.toNat
  | _ => 0
theorem toN_int (k : IntKind) (n : Int) : V.toN (.int k n) = n.toNat := rfl

theorem callK_pure {f : FuncId} {args : List V} {d : Option Nat} {os : List GO} {D : Option DS} {ks : List KS} {r : RF} {h : Heap} {Q : Ex → RF → Heap → Prop} {v : V}
    (c : CallsV P f args h v h) (H : wpK P (.os (pushD D r h v) os :: ks) .normal (r.set d v) h Q) : callK P f args d D os ks r h Q := ⟨v, h, c, H⟩

theorem callK_intro {f : FuncId} {args : List V} {d : Option Nat} {os : List GO} {D : Option DS} {ks : List KS} {r : RF} {h : Heap} {Q : Ex → RF → Heap → Prop} {K : V → Heap → Prop}
    (c : Ctr P f args h K) (H : ∀ v h', K v h' → wpK P (.os (pushD D r h v) os :: ks) .normal (r.set d v) h' Q) : callK P f args d D os ks r h Q := c.mono H

/-- the heap has grown: all that was stays -/
structure Ext (h h' : Heap) : Prop where
  next : h.next ≤ h'.next
  get : ∀ b, Old h b → h'.get b = h.get b

theorem Ext.refl (h : Heap) : Ext h h := ⟨Nat.le_refl _, fun _ _ => rfl⟩
theorem Ext.old {h h' : Heap} (e : Ext h h') {b : Pa} (hb : Old h b) : Old h' b := Nat.lt_of_lt_of_le hb e.next
theorem Ext.trans {h h' h'' : Heap} (e : Ext h h') (e' : Ext h' h'') : Ext h h'' :=
  ⟨Nat.le_trans e.next e'.next, fun b hb => (e'.get b (e.old hb)).trans (e.get b hb)⟩
theorem Ext.new {h h' : Heap} (e : Ext h h') (k : Blk) : Ext h (h'.new k) :=
  ⟨Nat.le_succ_of_le e.next, fun b hb => by
    rw [get_new, if_neg (fun q => (old_ne (h := h) hb e.next) ▸ q)]
    exact e.get b hb⟩
theorem Ext.set {h h' : Heap} (e : Ext h h') {i : Nat} (hi : h.next ≤ i) (k : Blk) : Ext h (h'.set (pa i) k) :=
  ⟨e.next, fun b hb => by
    rw [get_set, if_neg (fun q => (old_ne (h := h) hb hi) ▸ q)]
    exact e.get b hb⟩
theorem Ext.rd {h h' : Heap} (e : Ext h h') {b : Pa} (hb : Old h b) {vs : List V} (H : Rd h b vs) : Rd h' b vs := by
  unfold Rd at H ⊢
  rw [e.get b hb]
  exact H

/-- some cells of a block -/
def AtL (h : Heap) (b : Pa) (off : Nat) (vs : List V) : Prop := Old h b ∧ ∃ us, Rd h b us ∧ off + vs.length ≤ us.length ∧ (us.drop off).take vs.length = vs

theorem AtL.ext {h h' : Heap} (e : Ext h h') {b : Pa} {off : Nat} {vs : List V} (H : AtL h b off vs) : AtL h' b off vs := by
  obtain ⟨h0, us, h1, h2, h3⟩ := H
  exact ⟨e.old h0, us, e.rd h0 h1, h2, h3⟩

theorem AtL.ld1 {h : Heap} {b : Pa} {off : Nat} {vs : List V} (H : AtL h b off vs) {i : Nat} (hi : i < vs.length) : ld1B (h.get b) (off + i) = some vs[i] := by
  obtain ⟨_, us, h1, h2, h3⟩ := H
  rw [h1.ld1, List.getElem?_eq_getElem (by omega)]
  congr 1
  have : ((us.drop off).take vs.length)[i]? = vs[i]? := by rw [h3]
  rw [List.getElem?_take_of_lt hi, List.getElem?_drop, List.getElem?_eq_getElem (by omega), List.getElem?_eq_getElem hi] at this
  simpa using this

theorem AtL.ldn {h : Heap} {b : Pa} {off : Nat} {vs : List V} (H : AtL h b off vs) {i n : Nat} (hi : i + n ≤ vs.length) : ldnB n (h.get b) (off + i) = some (.agg ((vs.drop i).take n)) := by
  obtain ⟨_, us, h1, h2, h3⟩ := H
  rw [h1.ldn, if_pos (by omega)]
  congr 2
  have : (((us.drop off).take vs.length).drop i).take n = (vs.drop i).take n := by rw [h3]
  rw [← this, List.drop_take, List.drop_drop, List.take_take]
  congr 1
  omega

/-- a slice of n elements, each of so many cells -/
def SlV (h : Heap) (size : Nat) (v : V) (n : Nat) (vs : List V) : Prop :=
  vs.length = n * size ∧ match v with
    | .nilslice => n = 0
    | .slice b off len _ => len = n ∧ AtL h b off vs
    | .gslice b off len _ => len = n ∧ AtL h b off vs
    | .tslice _ _ _ _ => n = 0
    | _ => False

theorem SlV.ext {h h' : Heap} (e : Ext h h') {size : Nat} {v : V} {n : Nat} {vs : List V} (H : SlV h size v n vs) : SlV h' size v n vs := by
  refine ⟨H.1, ?_⟩
  have H2 := H.2
  cases v <;> simp only at H2 ⊢ <;> first | exact H2 | exact ⟨H2.1, H2.2.ext e⟩

theorem SlV.len {h : Heap} {size : Nat} {v : V} {n : Nat} {vs : List V} (H : SlV h size v n vs) : lenSl v = some (.int .i64 n) := by
  have H2 := H.2
  cases v <;> simp only at H2 <;> first
    | (rw [← H2.1]; rfl)
    | (subst H2; rfl)
    | (exact H2.elim)

/-- the address of an element, and what stands there -/
theorem SlV.ia {h : Heap} {size : Nat} {v : V} {n : Nat} {vs : List V} (H : SlV h size v n vs) {k : IntKind} {i : Nat} (hi : i < n) :
    ∃ b off, iaV size v (.int k i) = some (.ptr b (off + i * size)) ∧ AtL h b off vs := by
  have H2 := H.2
  cases v <;> simp only at H2 <;> first
    | omega
    | (exact H2.elim)
    | skip
  · rename_i b off len cap
    obtain ⟨rfl, h1⟩ := H2
    refine ⟨b, off, ?_, h1⟩
    rw [ia_sl, if_pos (by omega)]
    simp
  · rename_i b off len cap
    obtain ⟨rfl, h1⟩ := H2
    refine ⟨b, off, ?_, h1⟩
    rw [ia_g, if_pos (by omega)]
    simp
end
end Go.Proofs.Ytkjifhoiiciblaa.Am

namespace Go.Proofs.Ytkjifhoiiciblaa.Am
open Go Go.RowKit

/-! What a piece of code turns; slices of one's own; append. -/
/-- the heap has grown, and of what was only such blocks have been turned -/
structure Mod (M : Pa → Prop) (h h' : Heap) : Prop where
  next : h.next ≤ h'.next
  get : ∀ b, Old h b → ¬ M b → h'.get b = h.get b

theorem Mod.refl (M : Pa → Prop) (h : Heap) : Mod M h h := ⟨Nat.le_refl _, fun _ _ _ => rfl⟩
theorem Mod.old {M : Pa → Prop} {h h' : Heap} (e : Mod M h h') {b : Pa} (hb : Old h b) : Old h' b := Nat.lt_of_lt_of_le hb e.next
theorem Mod.trans {M : Pa → Prop} {h h' h'' : Heap} (e : Mod M h h') (e' : Mod M h' h'') : Mod M h h'' :=
  ⟨Nat.le_trans e.next e'.next, fun b hb hm => (e'.get b (e.old hb) hm).trans (e.get b hb hm)⟩
theorem Mod.mono {M M' : Pa → Prop} {h h' : Heap} (e : Mod M h h') (hm : ∀ b, Old h b → M b → M' b) : Mod M' h h' :=
  ⟨e.next, fun b hb hn => e.get b hb fun q => hn (hm b hb q)⟩
theorem Mod.new {M : Pa → Prop} {h h' : Heap} (e : Mod M h h') (k : Blk) : Mod M h (h'.new k) :=
  ⟨Nat.le_succ_of_le e.next, fun b hb hm => by
    rw [get_new, if_neg (fun q => (old_ne (h := h) hb e.next) ▸ q)]
    exact e.get b hb hm⟩
theorem Mod.set {M : Pa → Prop} {h h' : Heap} (e : Mod M h h') {b : Pa} (hb : Old h b → M b) (k : Blk) : Mod M h (h'.set b k) :=
  ⟨e.next, fun b' hb' hm => by
    rw [get_set]
    by_cases q : b = b'
    · subst q
      exact absurd (hb hb') hm
    · rw [if_neg q]
      exact e.get b' hb' hm⟩
theorem Ext.mod {h h' : Heap} (e : Ext h h') (M : Pa → Prop) : Mod M h h' := ⟨e.next, fun b hb _ => e.get b hb⟩
theorem Mod.ext {M : Pa → Prop} {h h' : Heap} (e : Mod M h h') (hm : ∀ b, Old h b → ¬ M b) : Ext h h' := ⟨e.next, fun b hb => e.get b hb (hm b hb)⟩
/-- what has been turned since a later moment is new for an earlier one -/
theorem Ext.mod_new {h h' h'' : Heap} (e : Ext h h') {M : Pa → Prop} (m : Mod M h' h'') (hm : ∀ b, M b → h.next ≤ unPa b) : Ext h h'' :=
  ⟨Nat.le_trans e.next m.next, fun b hb => by
    have hnm : ¬ M b := fun q => by have := hm b q; unfold Old at hb; omega
    exact (m.get b (e.old hb) hnm).trans (e.get b hb)⟩
theorem Mod.at {M : Pa → Prop} {h h' : Heap} (e : Mod M h h') {b : Pa} {off : Nat} {vs : List V} (H : AtL h b off vs) (hm : ¬ M b) : AtL h' b off vs := by
  obtain ⟨h0, us, h1, h2, h3⟩ := H
  refine ⟨e.old h0, us, ?_, h2, h3⟩
  unfold Rd at h1 ⊢
  rw [e.get b h0 hm]
  exact h1

theorem old_lt {h : Heap} {i : Nat} (hi : i < h.next) : Old h (pa i) := by unfold Old; rw [unPa_pa]; exact hi
theorem new_ne {h : Heap} {b : Pa} {i : Nat} (hb : Old h b) (hi : h.next ≤ i) : (b = pa i) = False := by
  apply eq_false
  intro e
  unfold Old at hb
  rw [e, unPa_pa] at hb
  omega

def V.blk : V → Pa → Prop
  | .slice b _ _ _, b' => b' = b
  | .gslice b _ _ _, b' => b' = b
  | _, _ => False

theorem SlV.ia' {h : Heap} {size : Nat} {v : V} {n : Nat} {vs : List V} (H : SlV h size v n vs) {k : IntKind} {i : Nat} (hi : i < n) :
    ∃ b off, iaV size v (.int k i) = some (.ptr b (off + i * size)) ∧ AtL h b off vs ∧ v.blk b := by
  have H2 := H.2
  cases v <;> simp only at H2 <;> first
    | omega
    | (exact H2.elim)
    | skip
  · rename_i b off len cap
    obtain ⟨rfl, h1⟩ := H2
    refine ⟨b, off, ?_, h1, rfl⟩
    rw [ia_sl, if_pos (by omega)]
    simp
  · rename_i b off len cap
    obtain ⟨rfl, h1⟩ := H2
    refine ⟨b, off, ?_, h1, rfl⟩
    rw [ia_g, if_pos (by omega)]
    simp
theorem SlV.one {h : Heap} {size : Nat} {v : V} {n : Nat} {vs : List V} (H : SlV h size v n vs) : v.one = true ∧ v.cells = [v] ∧ v.good = true := by
  have q := H.2
  cases v <;> simp only at q <;> first | exact ⟨rfl, rfl, rfl⟩ | exact q.elim

theorem SlV.mod {M : Pa → Prop} {h h' : Heap} (e : Mod M h h') {size : Nat} {v : V} {n : Nat} {vs : List V} (H : SlV h size v n vs) (hm : ∀ b, v.blk b → ¬ M b) : SlV h' size v n vs := by
  refine ⟨H.1, ?_⟩
  have H2 := H.2
  cases v <;> simp only at H2 ⊢ <;> first | exact H2 | exact ⟨H2.1, e.at H2.2 (hm _ rfl)⟩

theorem SlV.old {h : Heap} {size : Nat} {v : V} {n : Nat} {vs : List V} (H : SlV h size v n vs) {b : Pa} (hb : v.blk b) : Old h b := by
  have H2 := H.2
  cases v <;> simp only [V.blk] at H2 hb <;> first | (exact hb.elim) | (subst hb; exact H2.2.1)

/-- a slice of one's own: it may be written, and appended to -/
def SlO (B : Nat) (h : Heap) (size : Nat) (v : V) (n : Nat) (vs : List V) : Prop :=
  vs.length = n * size ∧ match v with
    | .nilslice => n = 0
    | .slice b off len cap => len = n ∧ B ≤ unPa b ∧ Old h b ∧ n ≤ cap ∧ cap ≤ top ∧ ∃ us esz st, h.get b = .ofL us esz st ∧ off + cap * size ≤ us.length ∧ (us.drop off).take vs.length = vs
    | .gslice b off len idx => len = n ∧ B ≤ unPa b ∧ Old h b ∧ off = 0 ∧ idx = 0 ∧ ∃ us st, h.get b = .ofL us size st ∧ vs.length ≤ us.length ∧ us.take vs.length = vs
    | _ => False

theorem SlO.v {B : Nat} {h : Heap} {size : Nat} {v : V} {n : Nat} {vs : List V} (H : SlO B h size v n vs) : SlV h size v n vs := by
  obtain ⟨h1, h2⟩ := H
  refine ⟨h1, ?_⟩
  cases v <;> simp only at h2 ⊢ <;> first | exact h2 | skip
  · obtain ⟨q1, _, q2, q3, _, us, esz, st, q4, q5, q6⟩ := h2
    refine ⟨q1, q2, us, .inr ⟨esz, st, q4⟩, ?_, q6⟩
    rw [h1]
    have := Nat.mul_le_mul_right size q3
    omega
  · obtain ⟨q1, _, q2, q3, _, us, st, q4, q5, q6⟩ := h2
    subst q3
    exact ⟨q1, q2, us, .inr ⟨size, st, q4⟩, by omega, by simpa using q6⟩

theorem SlO.base {B : Nat} {h : Heap} {size : Nat} {v : V} {n : Nat} {vs : List V} (H : SlO B h size v n vs) {b : Pa} (hb : v.blk b) : B ≤ unPa b := by
  have H2 := H.2
  cases v <;> simp only [V.blk] at H2 hb <;> first | (exact hb.elim) | (subst hb; exact H2.2.1)

theorem SlO.mono {B B' : Nat} {h : Heap} {size : Nat} {v : V} {n : Nat} {vs : List V} (H : SlO B h size v n vs) (hB : B' ≤ B) : SlO B' h size v n vs := by
  refine ⟨H.1, ?_⟩
  have H2 := H.2
  cases v <;> simp only at H2 ⊢ <;> first | exact H2 | exact ⟨H2.1, Nat.le_trans hB H2.2.1, H2.2.2⟩

theorem SlO.mod {M : Pa → Prop} {h h' : Heap} (e : Mod M h h') {B size : Nat} {v : V} {n : Nat} {vs : List V} (H : SlO B h size v n vs) (hm : ∀ b, v.blk b → ¬ M b) : SlO B h' size v n vs := by
  refine ⟨H.1, ?_⟩
  have H2 := H.2
  cases v <;> simp only at H2 ⊢ <;> first | exact H2 | skip
  · obtain ⟨q1, q2, q3, q4, q5, us, esz, st, q6, q7⟩ := H2
    exact ⟨q1, q2, e.old q3, q4, q5, us, esz, st, by rw [e.get _ q3 (hm _ rfl)]; exact q6, q7⟩
  · obtain ⟨q1, q2, q3, q4, q5, us, st, q6, q7⟩ := H2
    exact ⟨q1, q2, e.old q3, q4, q5, us, st, by rw [e.get _ q3 (hm _ rfl)]; exact q6, q7⟩

theorem SlO.ext {h h' : Heap} (e : Ext h h') {B size : Nat} {v : V} {n : Nat} {vs : List V} (H : SlO B h size v n vs) : SlO B h' size v n vs :=
  H.mod (e.mod fun _ => False) fun _ _ q => q

theorem lenV_of {h : Heap} {size : Nat} {v : V} {n : Nat} {vs : List V} (H : SlV h size v n vs) : lenV v = some n := by
  have H2 := H.2
  cases v <;> simp only at H2 <;> first
    | (rw [← H2.1]; rfl)
    | (subst H2; rfl)
    | (exact H2.elim)

theorem srcAt_of {h : Heap} {b : Pa} {off size n : Nat} {vs : List V} (H : AtL h b off vs) (hl : vs.length = n * size) : srcAt h size b off n = some vs := by
  obtain ⟨_, us, h1, h2, h3⟩ := H
  unfold srcAt
  rw [h1.see, show Nat.ble (off + n * size) us.length = true from by rw [Nat.ble_eq]; omega, gets_eq us _ off (by omega), ← hl, h3]
  rfl

theorem src_of {h : Heap} {size : Nat} {v : V} {n : Nat} {vs : List V} (H : SlV h size v n vs) : srcCells h size v n = some vs := by
  obtain ⟨h1, h2⟩ := H
  cases v <;> simp only at h2 <;> first
    | (exact h2.elim)
    | (obtain ⟨_, h3⟩ := h2; exact srcAt_of h3 h1)
    | (subst h2
       have : vs = [] := List.eq_nil_of_length_eq_zero (by omega)
       subst this
       rfl)

/-- a new block that holds just these cells, with room behind them -/
theorem SlO.grown {B : Nat} {h : Heap} {size : Nat} {vs : List V} {n : Nat} {st : Bool} (hl : vs.length = n * size) (hB : B ≤ h.next) : SlO B (h.new (.ofL vs size st)) size (.gslice (pa h.next) 0 n 0) n vs :=
  ⟨hl, rfl, by rw [unPa_pa]; exact hB, old_self, rfl, rfl, vs, st, get_new_self _, Nat.le_refl _, List.take_length⟩

theorem appV_eq {h : Heap} {size : Nat} {s x : V} {m : Nat} {vs : List V} (H2 : SlV h size x m vs) (hm : m ≤ top) : appV size s x h = (match s with
      | .nilslice => appNil size m vs h
      | .slice b off len cap => appKnown size b off len cap m vs h
      | .gslice b off len idx => appGrown size b off len idx m vs h
      | _ => .fail) := by
  unfold appV
  rw [lenV_of H2]
  simp only
  rw [src_of H2]
  simp only
  rw [show Nat.ble m top = true from by rw [Nat.ble_eq]; exact hm]
  rfl

theorem splice_get (A : List V) (o : Nat) (W : List V) (h : o + W.length ≤ A.length) (q : Nat) : (splice A o W)[q]? = if q < o then A[q]? else if q < o + W.length then W[q - o]? else A[q]? := by
  have hl : (A.take o).length = o := by rw [List.length_take]; omega
  unfold splice
  rw [List.append_assoc]
  by_cases c1 : q < o
  · rw [if_pos c1, List.getElem?_append_left (by omega), List.getElem?_take_of_lt c1]
  · rw [if_neg c1, List.getElem?_append_right (by omega), hl]
    by_cases c2 : q < o + W.length
    · rw [if_pos c2, List.getElem?_append_left (by omega)]
    · rw [if_neg c2, List.getElem?_append_right (by omega), List.getElem?_drop]
      congr 1
      omega

theorem splice_inner (A : List V) (o j : Nat) (L W : List V) (hA : o + L.length ≤ A.length) (hL : (A.drop o).take L.length = L) (hj : j + W.length ≤ L.length) : ((splice A (o + j) W).drop o).take L.length = splice L j W := by
  apply List.ext_getElem?
  intro q
  have hl : ((A.drop o).take L.length)[q]? = L[q]? := by rw [hL]
  rw [splice_get L j W hj]
  by_cases hq : q < L.length
  · rw [List.getElem?_take_of_lt hq, List.getElem?_drop, splice_get A (o + j) W (by omega)]
    rw [List.getElem?_take_of_lt hq, List.getElem?_drop] at hl
    by_cases c1 : q < j
    · rw [if_pos (by omega), if_pos c1, hl]
    · rw [if_neg (by omega), if_neg c1]
      by_cases c2 : q < j + W.length
      · rw [if_pos (by omega), if_pos c2]
        congr 1
        omega
      · rw [if_neg (by omega), if_neg c2, hl]
  · rw [List.getElem?_take_eq_none (by omega), if_neg (by omega), if_neg (by omega), List.getElem?_eq_none (by omega)]

/-- APPEND -/
theorem app_own {B : Nat} {h : Heap} {size : Nat} {s x : V} {n m : Nat} {us vs : List V} (hsz : 1 ≤ size) (H1 : SlO B h size s n us) (H2 : SlV h size x m vs) (hB : B ≤ h.next) (hlen : (n + m) * size ≤ top) (ho : ones vs = true) :
    ∃ v h', appV size s x h = .val v h' ∧ SlO B h' size v (n + m) (us ++ vs) ∧ Mod s.blk h h' ∧ ∀ b, v.blk b → s.blk b ∨ h.next ≤ unPa b := by
  have hnm : n + m ≤ top := Nat.le_trans (Nat.le_mul_of_pos_right _ hsz) hlen
  have hl1 := H1.1
  have hl2 := H2.1
  have hll : (us ++ vs).length = (n + m) * size := by rw [List.length_append, hl1, hl2, Nat.add_mul]
  rw [appV_eq H2 (by omega)]
  have h2 := H1.2
  cases s <;> simp only at h2 ⊢ <;> try (exact h2.elim)
  case nilslice =>
    subst h2
    have : us = [] := List.eq_nil_of_length_eq_zero (by omega)
    subst this
    unfold appNil
    by_cases hm : m = 0
    · subst hm
      have : vs = [] := List.eq_nil_of_length_eq_zero (by omega)
      subst this
      exact ⟨.nilslice, h, rfl, ⟨by simp, rfl⟩, Mod.refl _ _, fun b hb => .inl hb⟩
    · rw [show Nat.beq m 0 = false from by rw [← Bool.not_eq_true, Nat.beq_eq]; exact hm]
      simp only [cond_false]
      rw [newGrow_eq (by rw [hl2]; simpa using hlen) hsz]
      refine ⟨_, _, rfl, ?_, (Mod.refl _ _).new _, fun b hb => .inr (by rw [show b = pa h.next from hb, unPa_pa]; exact Nat.le_refl _)⟩
      have := SlO.grown (B := B) (h := h) (size := size) (vs := vs) (n := m) (st := false) hl2 hB
      simpa using this
  case slice b off len cap =>
    obtain ⟨rfl, q2, q3, q4, q5, us0, esz, st, q6, q7, q8⟩ := h2
    unfold appKnown
    by_cases hc : len + m ≤ cap
    · rw [show Nat.ble (len + m) cap = true from by rw [Nat.ble_eq]; exact hc]
      simp only [cond_true]
      have hroom : off + len * size + vs.length ≤ us0.length := by
        have := Nat.mul_le_mul_right size hc
        rw [Nat.add_mul] at this
        rw [hl2]
        omega
      rw [Own.lay (vs := us0) (esz := esz) (st := st) q6 hroom ho]
      refine ⟨_, _, rfl, ⟨hll, rfl, q2, q3, hc, q5, _, esz, st, get_set _ _ _ |>.trans (if_pos rfl), ?_, ?_⟩, (Mod.refl (V.blk (.slice b off len cap)) h).set (fun _ => rfl) _, fun b' hb => .inl hb⟩
      · rw [splice_length _ _ _ hroom]; exact q7
      · rw [List.length_append]
        unfold splice
        have hlo : off + us.length ≤ us0.length := by rw [hl1]; omega
        have e1 : us0.take (off + len * size) = us0.take off ++ us := by
          rw [← hl1, List.take_add, q8]
        rw [e1, List.append_assoc, List.append_assoc, List.drop_append, List.drop_eq_nil_of_le (by rw [List.length_take]; omega), List.nil_append]
        rw [show off - (us0.take off).length = 0 from by rw [List.length_take]; omega, List.drop_zero]
        rw [← List.append_assoc, List.take_left' (by rw [List.length_append])]
    · rw [show Nat.ble (len + m) cap = false from by rw [← Bool.not_eq_true, Nat.ble_eq]; exact hc]
      simp only [cond_false]
      rw [show (Nat.ble (len + m) top && Nat.ble cap top) = true from by simp only [Bool.and_eq_true, Nat.ble_eq]; exact ⟨hnm, q5⟩]
      simp only [cond_true]
      have hat : AtL h b off us := ⟨q3, us0, .inr ⟨esz, st, q6⟩, by rw [hl1]; have := Nat.mul_le_mul_right size q4; omega, q8⟩
      rw [srcAt_of hat hl1]
      simp only
      rw [newGrow_eq (by rw [hll]; exact hlen) hsz]
      exact ⟨_, _, rfl, SlO.grown hll hB, (Mod.refl _ _).new _, fun b hb => .inr (by rw [show b = pa h.next from hb, unPa_pa]; exact Nat.le_refl _)⟩
  case gslice b off len idx =>
    obtain ⟨rfl, q2, q3, rfl, rfl, us0, st, q6, q7, q8⟩ := h2
    unfold appGrown
    by_cases hm : m = 0
    · subst hm
      have : vs = [] := List.eq_nil_of_length_eq_zero (by omega)
      subst this
      exact ⟨_, h, rfl, ⟨hll, rfl, q2, q3, rfl, rfl, us0, st, q6, by simpa using q7, by simpa using q8⟩, Mod.refl _ _, fun b hb => .inl hb⟩
    · rw [show Nat.beq m 0 = false from by rw [← Bool.not_eq_true, Nat.beq_eq]; exact hm]
      simp only [cond_false]
      rw [q6]
      simp only [Blk.ofL, Blk.on]
      rw [show (Nat.beq size size && (Nat.ble (len + m) top && ones vs) && Nat.beq 0 (0 * size)) = true from by
        simp only [Bool.and_eq_true, Nat.beq_eq, Nat.ble_eq]
        exact ⟨⟨trivial, hnm, ho⟩, by omega⟩]
      simp only [cond_true]
      have hat : AtL h b 0 us := ⟨q3, us0, .inr ⟨size, st, q6⟩, by omega, by simpa using q8⟩
      rw [srcAt_of hat hl1]
      simp only
      rw [newGrow_eq (by rw [hll]; exact hlen) hsz]
      exact ⟨_, _, rfl, SlO.grown (h := h.set b .dead) hll hB, ((Mod.refl (V.blk (.gslice b 0 len 0)) h).set (fun _ => rfl) _).new _, fun b' hb => .inr (by rw [show b' = pa h.next from hb, unPa_pa]; exact Nat.le_refl _)⟩

theorem ones_append {vs ws : List V} (h1 : ones vs = true) (h2 : ones ws = true) : ones (vs ++ ws) = true := by
  induction vs with
  | nil => exact h2
  | cons v vs ih =>
    simp only [ones, Bool.and_eq_true, List.cons_append] at h1 ⊢
    exact ⟨h1.1, ih h1.2⟩

/-- an element of a slice of one's own is laid anew -/
theorem SlO.put {B : Nat} {h : Heap} {size : Nat} {v : V} {n : Nat} {vs : List V} (H : SlO B h size v n vs) {i : Nat} (hi : i < n) {k : IntKind} {y : V} (hy : y.cells.length = size) (ho : ones y.cells = true) :
    ∃ b off h', iaV size v (.int k i) = some (.ptr b (off + i * size)) ∧ v.blk b ∧ storeV size h (.ptr b (off + i * size)) y = some h' ∧ SlO B h' size v n (splice vs (i * size) y.cells) ∧ Mod v.blk h h' := by
  obtain ⟨h1, h2⟩ := H
  have hlt : i * size + size ≤ n * size := by
    have := Nat.mul_le_mul_right size (show i + 1 ≤ n from hi)
    rw [Nat.add_mul] at this
    omega
  cases v <;> simp only at h2 <;> try (first | omega | exact h2.elim)
  case slice b off len cap =>
    obtain ⟨rfl, q2, q3, q4, q5, us0, esz, st, q6, q7, q8⟩ := h2
    have hc := Nat.mul_le_mul_right size q4
    have hroom : off + i * size + y.cells.length ≤ us0.length := by rw [hy]; omega
    refine ⟨b, off, _, ?_, rfl, Own.store (vs := us0) (esz := esz) (st := st) q6 hy (by rw [hy] at hroom; exact hroom) ho, ⟨?_, rfl, q2, q3, q4, q5, _, esz, st, get_set _ _ _ |>.trans (if_pos rfl), ?_, ?_⟩, (Mod.refl (V.blk (.slice b off len cap)) h).set (fun _ => rfl) _⟩
    · rw [ia_sl, if_pos (by omega)]; simp
    · rw [splice_length _ _ _ (by rw [hy, h1]; omega)]; exact h1
    · rw [splice_length _ _ _ hroom]; exact q7
    · rw [splice_length _ _ _ (by rw [hy, h1]; omega)]
      exact splice_inner us0 off (i * size) vs y.cells (by rw [h1]; omega) q8 (by rw [hy, h1]; omega)
  case gslice b off len idx =>
    obtain ⟨rfl, q2, q3, rfl, rfl, us0, st, q6, q7, q8⟩ := h2
    have hroom : i * size + y.cells.length ≤ vs.length := by rw [hy, h1]; omega
    have hroom0 : 0 + i * size + y.cells.length ≤ us0.length := by omega
    refine ⟨b, 0, _, ?_, rfl, Own.store (vs := us0) (esz := size) (st := st) q6 hy (by rw [hy] at hroom0; exact hroom0) ho, ⟨?_, rfl, q2, q3, rfl, rfl, _, st, get_set _ _ _ |>.trans (if_pos rfl), ?_, ?_⟩, (Mod.refl (V.blk (.gslice b 0 len 0)) h).set (fun _ => rfl) _⟩
    · rw [ia_g, if_pos (by omega)]; simp
    · rw [splice_length _ _ _ hroom]; exact h1
    · rw [splice_length _ _ _ hroom, splice_length _ _ _ hroom0]; exact q7
    · rw [splice_length _ _ _ hroom]
      have := splice_inner us0 0 (i * size) vs y.cells (by omega) (by simpa using q8) hroom
      simpa using this

/-- where a slice lies -/
def V.at (v : V) (b : Pa) (off : Nat) : Prop :=
  match v with
  | .slice b' o _ _ => b = b' ∧ off = o
  | .gslice b' o _ _ => b = b' ∧ off = o
  | _ => False

theorem at_ia {h : Heap} {size : Nat} {v : V} {n : Nat} {vs : List V} (H : SlV h size v n vs) {k : IntKind} {i : Nat} (hi : i < n) {b : Pa} {off : Nat} (e : iaV size v (.int k i) = some (.ptr b (off + i * size))) : v.at b off := by
  have H2 := H.2
  cases v <;> simp only at H2 <;> first | omega | (exact H2.elim) | skip
  · obtain ⟨rfl, _⟩ := H2
    rw [ia_sl, if_pos (by omega)] at e
    simp only [Option.some.injEq, V.ptr.injEq, Int.toNat_natCast] at e
    exact ⟨e.1.symm, by omega⟩
  · obtain ⟨rfl, _⟩ := H2
    rw [ia_g, if_pos (by omega)] at e
    simp only [Option.some.injEq, V.ptr.injEq, Int.toNat_natCast] at e
    exact ⟨e.1.symm, by omega⟩

theorem splice_one (vs : List V) (c : Nat) (y : V) (h : c < vs.length) : splice vs c [y] = vs.set c y := by
  unfold splice
  rw [List.set_eq_take_append_cons_drop, if_pos h]
  simp

/-- one cell of a slice of one's own is laid anew -/
theorem SlO.putc {B : Nat} {h : Heap} {size : Nat} {v : V} {n : Nat} {vs : List V} (H : SlO B h size v n vs) {b : Pa} {off : Nat} (ha : v.at b off) {c : Nat} (hc : c < vs.length) {y : V} (hy : y.cells = [y]) (ho : y.one = true) :
    ∃ k, layB 1 h b (off + c) y (h.get b) = some (h.set b k) ∧ (∀ H' : Heap, H'.get b = h.get b → layB 1 H' b (off + c) y (h.get b) = some (H'.set b k)) ∧ SlO B (h.set b k) size v n (vs.set c y) ∧ v.blk b := by
  obtain ⟨h1, h2⟩ := H
  have ho' : ones y.cells = true := by rw [hy]; simp [ones, ho]
  cases v <;> simp only at h2 <;> simp only [V.at] at ha <;> try (exact ha.elim)
  case slice b' o len cap =>
    obtain ⟨rfl, rfl⟩ := ha
    obtain ⟨rfl, q2, q3, q4, q5, us0, esz, st, q6, q7, q8⟩ := h2
    have hcc := Nat.mul_le_mul_right size q4
    have hroom : off + c + y.cells.length ≤ us0.length := by rw [hy]; simp; omega
    have e : ∀ H' : Heap, H'.get b = h.get b → layB 1 H' b (off + c) y (h.get b) = some (H'.set b (.ofL (spl us0 (off + c) y.cells) esz st)) := by
      intro H' _
      rw [q6]
      exact lay_ofL (by rw [hy]; rfl) ho' (by rw [hy] at hroom; simpa using hroom)
    refine ⟨_, e h rfl, e, ⟨by simpa using h1, rfl, q2, q3, q4, q5, _, esz, st, get_set _ _ _ |>.trans (if_pos rfl), ?_, ?_⟩, rfl⟩
    · rw [spl_length _ _ _ hroom]; exact q7
    · rw [spl_eq _ _ _ hroom, List.length_set]
      have := splice_inner us0 off c vs y.cells (by rw [h1]; omega) q8 (by rw [hy]; simp; omega)
      rw [this, hy, splice_one vs c y hc]
  case gslice b' o len idx =>
    obtain ⟨rfl, rfl⟩ := ha
    obtain ⟨rfl, q2, q3, rfl, rfl, us0, st, q6, q7, q8⟩ := h2
    have hroom : 0 + c + y.cells.length ≤ us0.length := by rw [hy]; simp; omega
    have e : ∀ H' : Heap, H'.get b = h.get b → layB 1 H' b (0 + c) y (h.get b) = some (H'.set b (.ofL (spl us0 (0 + c) y.cells) size st)) := by
      intro H' _
      rw [q6]
      exact lay_ofL (by rw [hy]; rfl) ho' (by rw [hy] at hroom; simpa using hroom)
    refine ⟨_, e h rfl, e, ⟨by simpa using h1, rfl, q2, q3, rfl, rfl, _, st, get_set _ _ _ |>.trans (if_pos rfl), ?_, ?_⟩, rfl⟩
    · rw [spl_length _ _ _ hroom, List.length_set]; exact q7
    · rw [spl_eq _ _ _ hroom, List.length_set]
      have := splice_inner us0 0 c vs y.cells (by omega) (by simpa using q8) (by rw [hy]; simp; omega)
      rw [List.drop_zero] at this
      rw [this, hy, splice_one vs c y hc]

theorem opt_no (r : RF) : RX.opt r none = none := (rfl)
theorem opt_so (r : RF) (x : RX) : RX.opt r (some x) = some (x.ev r) := (rfl)

theorem bound_some {k : IntKind} {m d y : Nat} (h : m ≤ y) : bound (some (.int k (m : Int))) d y = some m := by
  simp only [bound, V.onInt, leB_dec]
  rw [show (decide ((0 : Int) ≤ (m : Int)) && decide ((m : Int) ≤ (y : Int))) = true from by simp; omega]
  simp
theorem bound_none (d y : Nat) : bound none d y = some d := rfl

/-- a slice of a slice -/
theorem SlV.cut {h : Heap} {size : Nat} {v : V} {n : Nat} {vs : List V} (H : SlV h size v n vs) {k k' : IntKind} {lo hi : Nat} (h1 : lo ≤ hi) (h2 : hi ≤ n) (lov hiv : Option V)
    (hlo : lov = some (.int k lo) ∨ lov = none ∧ lo = 0) (hhi : hiv = some (.int k' hi) ∨ hiv = none ∧ hi = n) (hcap : ∀ b off l c, v = .slice b off l c → l ≤ c) :
    ∃ v', sliceV size v lov hiv none = some v' ∧ SlV h size v' (hi - lo) ((vs.drop (lo * size)).take ((hi - lo) * size)) ∧ ∀ b, v'.blk b → v.blk b := by
  obtain ⟨q1, q2⟩ := H
  have hll : ((vs.drop (lo * size)).take ((hi - lo) * size)).length = (hi - lo) * size := by
    rw [List.length_take, List.length_drop, q1]
    have e1 := Nat.mul_le_mul_right size h1
    have e2 := Nat.mul_le_mul_right size h2
    rw [Nat.sub_mul]
    omega
  have bl : ∀ y, lo ≤ y → bound lov 0 y = some lo := by
    intro y hy
    rcases hlo with rfl | ⟨rfl, rfl⟩
    · exact bound_some hy
    · rfl
  have bh : ∀ d y, n = d → n ≤ y → bound hiv d y = some hi := by
    intro d y hd hy
    rcases hhi with rfl | ⟨rfl, rfl⟩
    · exact bound_some (by omega)
    · rw [bound_none, hd]
  have piece : ∀ (b : Pa) (off : Nat), AtL h b off vs → AtL h b (off + lo * size) ((vs.drop (lo * size)).take ((hi - lo) * size)) := by
    rintro b off ⟨a1, us, a2, a3, a4⟩
    have e1 := Nat.mul_le_mul_right size h1
    have e2 := Nat.mul_le_mul_right size h2
    refine ⟨a1, us, a2, ?_, ?_⟩
    · rw [hll, Nat.sub_mul]; omega
    · rw [hll, ← List.drop_drop]
      have : (us.drop off).drop (lo * size) = (((us.drop off).take vs.length).drop (lo * size)) ++ (us.drop off).drop vs.length := by
        rw [← List.drop_append_of_le_length (by rw [List.length_take, List.length_drop]; omega), List.take_append_drop]
      rw [this, a4, List.take_append_of_le_length (by rw [List.length_drop, q1, Nat.sub_mul]; omega)]
  cases v <;> simp only at q2 <;> try (exact q2.elim)
  case nilslice =>
    subst q2
    obtain rfl : hi = 0 := by omega
    obtain rfl : lo = 0 := by omega
    refine ⟨.nilslice, ?_, ⟨hll, rfl⟩, fun b hb => hb⟩
    simp only [sliceV, sliceNil, bh 0 0 rfl (Nat.le_refl _), bl 0 (Nat.le_refl _)]
  case slice b off len cap =>
    obtain ⟨rfl, q3⟩ := q2
    have hc := hcap b off len cap rfl
    have e : sliceV size (.slice b off len cap) lov hiv none = some (.slice b (bif Nat.beq cap lo then off else off + lo * size) (hi - lo) (cap - lo)) := by
      simp only [sliceV, sliceKnown, bh len cap rfl hc, bl hi h1]
    rw [e]
    refine ⟨_, rfl, ⟨hll, rfl, ?_⟩, fun b' hb => hb⟩
    cases hb : Nat.beq cap lo with
    | false => exact piece b off q3
    | true =>
      rw [Nat.beq_eq] at hb
      obtain rfl : hi = lo := by omega
      obtain ⟨a1, us, a2, a3, a4⟩ := q3
      refine ⟨a1, us, a2, ?_, ?_⟩ <;> simp
      omega
  case gslice b off len idx =>
    obtain ⟨rfl, q3⟩ := q2
    by_cases hlt : lo < len
    · have e : sliceV size (.gslice b off len idx) lov hiv none = some (.gslice b (off + lo * size) (hi - lo) (idx + lo)) := by
        simp only [sliceV, sliceGrown, bh len len rfl (Nat.le_refl _), bl hi h1]
        rw [show Nat.blt lo len = true from by rw [Nat.blt_eq]; exact hlt]
        rfl
      rw [e]
      exact ⟨_, rfl, ⟨hll, rfl, piece b off q3⟩, fun b' hb => hb⟩
    · have e : sliceV size (.gslice b off len idx) lov hiv none = some (.tslice b off (off + lo * size) (idx + lo)) := by
        simp only [sliceV, sliceGrown, bh len len rfl (Nat.le_refl _), bl hi h1]
        rw [show Nat.blt lo len = false from by rw [← Bool.not_eq_true, Nat.blt_eq]; exact hlt]
        rfl
      rw [e]
      exact ⟨_, rfl, ⟨hll, by omega⟩, fun b' hb => hb.elim⟩
  case tslice b off off' idx =>
    subst q2
    obtain rfl : hi = 0 := by omega
    obtain rfl : lo = 0 := by omega
    refine ⟨.tslice b off off' idx, ?_, ⟨hll, rfl⟩, fun b hb => hb⟩
    simp only [sliceV, sliceTail, bh 0 0 rfl (Nat.le_refl _), bl 0 (Nat.le_refl _)]

/-- the beginning of a slice of one's own -/
theorem SlO.cut {B : Nat} {h : Heap} {size : Nat} {v : V} {n : Nat} {vs : List V} (H : SlO B h size v n vs) {k : IntKind} {m : Nat} (hm : m ≤ n) (hn : 1 ≤ n) :
    ∃ v', sliceV size v none (some (.int k m)) none = some v' ∧ SlO B h size v' m (vs.take (m * size)) ∧ ∀ b, v'.blk b → v.blk b := by
  obtain ⟨q1, q2⟩ := H
  have hmm := Nat.mul_le_mul_right size hm
  have hll : (vs.take (m * size)).length = m * size := by rw [List.length_take]; omega
  cases v <;> simp only at q2 <;> try (first | omega | exact q2.elim)
  case slice b off len cap =>
    obtain ⟨rfl, q3, q4, q5, q6, us, esz, st, q7, q8, q9⟩ := q2
    have e : sliceV size (.slice b off len cap) none (some (.int k m)) none = some (.slice b off m cap) := by
      simp only [sliceV, sliceKnown, bound_some (show m ≤ cap by omega), bound_none]
      cases Nat.beq cap 0 <;> simp
    rw [e]
    refine ⟨_, rfl, ⟨hll, rfl, q3, q4, by omega, q6, us, esz, st, q7, q8, ?_⟩, fun b' hb => hb⟩
    rw [hll, ← q9, List.take_take]
    congr 1
    omega
  case gslice b off len idx =>
    obtain ⟨rfl, q3, q4, rfl, rfl, us, st, q7, q8, q9⟩ := q2
    have e : sliceV size (.gslice b 0 len 0) none (some (.int k m)) none = some (.gslice b 0 m 0) := by
      simp only [sliceV, sliceGrown, bound_some hm, bound_none]
      rw [show Nat.blt 0 len = true from by rw [Nat.blt_eq]; omega]
      simp
    rw [e]
    refine ⟨_, rfl, ⟨hll, rfl, q3, q4, rfl, rfl, us, st, q7, by omega, ?_⟩, fun b' hb => hb⟩
    rw [hll, ← q9, List.take_take]
    congr 1
    omega

theorem nil_ptr (b : Pa) (o : Nat) : nilCheckV (.ptr b o) = some (.ptr b o) := rfl
theorem mn_two (k k' : IntKind) (a b : Int) : pickV (fun b a => !Int.leB a b) [.int k a, .int k' b] = some (.int k (if b < a then b else a)) := by
  simp only [pickV, pickFrom, V.onInt, leB_dec]
  by_cases h : b < a
  · rw [if_pos h]
    have : ¬ a ≤ b := by omega
    simp [this]
  · rw [if_neg h]
    have : a ≤ b := by omega
    simp [this]
theorem mx_two (k k' : IntKind) (a b : Int) : pickV (fun b a => !Int.leB b a) [.int k a, .int k' b] = some (.int k (if a < b then b else a)) := by
  simp only [pickV, pickFrom, V.onInt, leB_dec]
  by_cases h : a < b
  · rw [if_pos h]
    have : ¬ b ≤ a := by omega
    simp [this]
  · rw [if_neg h]
    have : b ≤ a := by omega
    simp [this]

/-- the cells of an element, of a slice of one's own: loads at its address -/
theorem AtL.cell {h : Heap} {b : Pa} {off : Nat} {vs : List V} (H : AtL h b off vs) {i j n : Nat} {ws : List V} (hw : (vs.drop i).take n = ws) (hi : i + n ≤ vs.length) (hj : j < n) : ld1B (h.get b) (off + i + j) = ws[j]? := by
  rw [Nat.add_assoc, H.ld1 (by omega), ← hw, List.getElem?_take_of_lt hj, List.getElem?_drop, List.getElem?_eq_getElem]
end Go.Proofs.Ytkjifhoiiciblaa.Am

namespace Go.Proofs.Ytkjifhoiiciblaa.Am
open Go Go.RowKit
set_option linter.defProp false

/-! The lemmas of the walk, in bundles. -/
def wpA1 :=
  And.intro @k_nil <| And.intro @k_blk <| And.intro @k_seq <| And.intro @k_block <| And.intro @k_reg <| And.intro @k_skip <| And.intro @k_ret <| And.intro @k_exit <| And.intro @k_cret <| And.intro @k_cexit <| And.intro @k_cond <| And.intro @k_loop <| And.intro @k_draw <| And.intro @k_osnil <| And.intro @k_mv <| And.intro @kg_mv <| And.intro @k_pick <| And.intro @kg_pick <| And.intro @k_build <| And.intro @kg_build <| And.intro @k_ld1 <| And.intro @kg_ld1 <| And.intro @k_ldn <| And.intro @kg_ldn <| And.intro @k_nilck <| And.intro @kg_nilck <| And.intro @k_bin <| And.intro @kg_bin <| And.intro @k_un <| And.intro @kg_un <| And.intro @k_fn <| And.intro @kg_fn <| And.intro @k_ifc <| And.intro @kg_ifc <| And.intro @k_slstr <| And.intro @kg_slstr <| And.intro @k_sl <| And.intro @kg_sl <| And.intro @k_fa <| @kg_fa
def wpA2 :=
  And.intro @k_fld1 <| And.intro @kg_fld1 <| And.intro @k_fldn <| And.intro @kg_fldn <| And.intro @k_ia <| And.intro @kg_ia <| And.intro @k_iaa <| And.intro @kg_iaa <| And.intro @k_ixs <| And.intro @kg_ixs <| And.intro @k_ix <| And.intro @kg_ix <| And.intro @k_look <| And.intro @kg_look <| And.intro @k_ext <| And.intro @kg_ext <| And.intro @k_mn <| And.intro @kg_mn <| And.intro @k_mx <| And.intro @kg_mx <| And.intro @k_cvint <| And.intro @kg_cvint <| And.intro @k_lenslice <| And.intro @kg_lenslice <| And.intro @k_lenstr <| And.intro @kg_lenstr <| And.intro @k_lenarr <| And.intro @kg_lenarr <| And.intro @k_new <| And.intro @kg_new <| And.intro @k_box <| And.intro @kg_box <| And.intro @k_bsl <| And.intro @kg_bsl <| And.intro @k_st <| And.intro @kg_st <| And.intro @k_mksl <| And.intro @kg_mksl <| And.intro @k_upd <| @kg_upd
def wpA3 :=
  And.intro @k_mkm <| And.intro @kg_mkm <| And.intro @k_rngs <| And.intro @kg_rngs <| And.intro @k_nxt <| And.intro @kg_nxt <| And.intro @k_app <| And.intro @kg_app <| And.intro @k_copy <| And.intro @kg_copy <| And.intro @k_lenmap <| And.intro @kg_lenmap <| And.intro @k_cvbytes <| And.intro @kg_cvbytes <| And.intro @k_cvstr <| And.intro @kg_cvstr <| And.intro @k_cvoth <| And.intro @kg_cvoth <| And.intro @kg_call <| And.intro @kg_callv <| And.intro @k_call <| And.intro @k_callv <| @k_dnil
def wpB1 :=
  And.intro @sv_some <| And.intro @so_val <| And.intro @condK_bool <| And.intro @callv_func <| And.intro @rngO_str <| And.intro @bslO_some <| And.intro @boxO_true <| And.intro @orH_some <| And.intro @fill_nil <| And.intro @fill_if <| And.intro @buildO_some <| And.intro @evPs_nil <| And.intro @evPs_cons <| And.intro @pickB_bool <| And.intro @fa_ptr <| And.intro @on_tup <| And.intro @on_agg <| And.intro @lens_sl <| And.intro @lens_g <| And.intro @lens_t <| And.intro @lens_nil <| And.intro @lenst_str <| And.intro @ia_sl <| And.intro @ia_g <| And.intro @cvi_int <| And.intro @ev_t <| And.intro @ev_c <| And.intro @trim_get <| And.intro @set_get <| And.intro @set_no <| And.intro @ofL_hd <| And.intro @ofL_tl <| And.intro @opt_true <| And.intro @opt_false <| And.intro @vif_true <| And.intro @vif_false <| And.intro @bif_bool <| And.intro @bif_int <| And.intro @bif_optn <| @bif_or
def wpB2 :=
  And.intro @bif_and <| And.intro @Imp_T <| And.intro @Imp_true <| And.intro @Imp_false <| And.intro @took_bool <| And.intro @took_tuple <| And.intro @took_opt <| And.intro @isGate_bool <| And.intro @isGate_tuple <| And.intro @isGate_opt <| And.intro @k_add <| And.intro @k_sub <| And.intro @k_mul <| And.intro @k_eql <| And.intro @k_neq <| And.intro @k_lss <| And.intro @k_leq <| And.intro @k_gtr <| And.intro @k_geq <| And.intro @k_beql <| And.intro @k_bneq <| And.intro @u_not <| And.intro @u_neg <| And.intro @load1_ptr <| And.intro @loadn_ptr <| And.intro @ld1_ofL <| And.intro @ld1_ro <| And.intro @ldn_ofL <| And.intro @ldn_ro <| And.intro @store_ptr <| And.intro @lay_if <| And.intro @get_new_self <| And.intro @get_new <| And.intro @get_set <| And.intro @pa_eq <| And.intro @next_new <| And.intro @next_set <| And.intro @newCells_if <| And.intro @cells_bool <| @one_bool
def wpB3 :=
  And.intro @good_bool <| And.intro @cells_int <| And.intro @one_int <| And.intro @good_int <| And.intro @cells_str <| And.intro @one_str <| And.intro @good_str <| And.intro @cells_nilptr <| And.intro @one_nilptr <| And.intro @good_nilptr <| And.intro @cells_ptr <| And.intro @one_ptr <| And.intro @good_ptr <| And.intro @cells_slice <| And.intro @one_slice <| And.intro @good_slice <| And.intro @cells_gslice <| And.intro @one_gslice <| And.intro @good_gslice <| And.intro @cells_tslice <| And.intro @one_tslice <| And.intro @good_tslice <| And.intro @cells_nilslice <| And.intro @one_nilslice <| And.intro @good_nilslice <| And.intro @cells_nilmap <| And.intro @one_nilmap <| And.intro @good_nilmap <| And.intro @cells_map <| And.intro @one_map <| And.intro @good_map <| And.intro @cells_func <| And.intro @one_func <| And.intro @good_func <| And.intro @cells_nilfunc <| And.intro @one_nilfunc <| And.intro @good_nilfunc <| And.intro @cells_iface <| And.intro @one_iface <| @good_iface
def wpB4 :=
  And.intro @cells_nilIface <| And.intro @one_nilIface <| And.intro @good_nilIface <| And.intro @cells_agg <| And.intro @good_agg <| And.intro @good_tuple <| And.intro @leave_normal <| And.intro @leave_ret <| And.intro @leave_exit <| And.intro @beq_true <| And.intro @beq_false <| And.intro @Bool.not_true <| And.intro @Bool.not_false <| And.intro @Bool.true_and <| And.intro @Bool.and_true <| And.intro @Bool.false_and <| And.intro @Bool.and_false <| And.intro @Bool.not_not <| And.intro @V.bool.injEq <| And.intro @Nat.zero_add <| And.intro @Nat.add_zero <| And.intro @then_normal <| And.intro @then_ret <| And.intro @then_exit <| And.intro @Bool.true_eq_false <| And.intro @Bool.false_eq_true <| And.intro @toN_int <| And.intro @pushD_none <| And.intro @pushD_some <| And.intro @asks_nil <| And.intro @asks_cons <| And.intro @ask_nil <| And.intro @ask_cons <| And.intro @heapF_o <| And.intro @heapO_some <| And.intro @heapO_none <| And.intro @ask_ld1 <| And.intro @ask_ldn <| And.intro @askg_ld1 <| @askg_ldn
def wpB5 :=
  And.intro @nx1 <| And.intro @xn1 <| And.intro @nx2 <| And.intro @xn2 <| And.intro @nx3 <| And.intro @xn3 <| And.intro @nx4 <| And.intro @xn4 <| And.intro @nx5 <| And.intro @xn5 <| And.intro @nx6 <| And.intro @xn6 <| And.intro @nx7 <| And.intro @xn7 <| And.intro @nx8 <| And.intro @xn8 <| And.intro @gateK_tt <| And.intro @gateK_ff <| And.intro @gateK_tf <| And.intro @gateK_ft <| And.intro @gateK_tuple <| And.intro @Bool.or_false <| And.intro @Bool.false_or <| And.intro @Bool.or_true <| And.intro @Bool.true_or <| And.intro @nil_ptr <| And.intro @mn_two <| And.intro @mx_two <| And.intro @opt_no <| And.intro @opt_so <| And.intro @add11 <| And.intro @add21 <| And.intro @add31 <| And.intro @add41 <| And.intro @add51 <| And.intro @add61 <| And.intro @add71 <| And.intro @add81 <| And.intro @add91 <| @add101
def wpB6 :=
  And.intro @add111 <| And.intro @add121 <| And.intro @add131 <| And.intro @add141 <| @add151
end Go.Proofs.Ytkjifhoiiciblaa.Am

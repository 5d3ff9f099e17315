/- The chapter's functions, walked by the abstract machine: plain lemmas, no condition. -/
import Derived.Test.YtjbiefneffiogaaGreatM5
import Derived.Test.YtjbiefneffiogaaGreatM7
import Derived.Test.YtjbiefneffiogaaGreatM8
set_option linter.unusedSectionVars false
set_option linter.unusedSimpArgs false
set_option linter.unusedVariables false

namespace Go.Proofs.YtjbiefneffiogaaGreat
open Go Am
theorem pure_calls {f : FuncId} {args : List V} {h : Heap} {v : V} (c : Ctr Tryz.prog f args h fun x h' => x = v ∧ h' = h) : CallsV Tryz.prog f args h v h := by
  obtain ⟨x, h', q, rfl, rfl⟩ := c
  exact q
def At.enc (a : At) : List V := [.int .i64 a.k, .int .i64 a.n, .str a.s]
def atsV : List At → List V
  | [] => []
  | a :: l => a.enc ++ atsV l
theorem atsV_len : ∀ l : List At, (atsV l).length = l.length * 3
  | [] => rfl
  | a :: l => by rw [atsV, List.length_append, atsV_len l, List.length_cons]; simp only [At.enc, List.length_cons, List.length_nil]; omega
theorem atsV_at : ∀ (l : List At) (i : Nat) (hi : i < l.length), ((atsV l).drop (i * 3)).take 3 = l[i].enc
  | [], i, hi => by simp at hi
  | a :: l, 0, _ => by simp [atsV, At.enc]
  | a :: l, i + 1, hi => by
    rw [atsV, show (i + 1) * 3 = a.enc.length + i * 3 from by simp only [At.enc, List.length_cons, List.length_nil]; omega, List.drop_append, List.drop_eq_nil_of_le (by omega), List.nil_append, Nat.add_sub_cancel_left]
    exact atsV_at l i (by simpa using hi)
theorem intsV_len (l : List Int) : (intsV l).length = l.length := by simp [intsV]
inductive CoIn (h : Heap) : Co → List V → Prop
  | mk {k x n : Int} {s : List UInt8} {a : List At} {t : List Int} {l : List Co} {va vt vl : V} {us : List (List V)} (ha : SlV h 3 va a.length (atsV a)) (ht : SlV h 1 vt t.length (intsV t))
    (hr : roomV vl) (hl : SlV h 7 vl l.length us.flatten) (hu : us.length = l.length) (kids : ∀ (i : Nat) (c : Co) (u : List V), l[i]? = some c → us[i]? = some u → CoIn h c u) :
    CoIn h (.mk k x n s a t l) [.int .i64 k, .int .i64 x, .int .i64 n, .str s, va, vt, vl]
def CosIn (h : Heap) (l : List Co) (vl : V) : Prop := roomV vl ∧ ∃ us : List (List V), SlV h 7 vl l.length us.flatten ∧ us.length = l.length ∧ ∀ (i : Nat) (c : Co) (u : List V), l[i]? = some c → us[i]? = some u → CoIn h c u
theorem CoIn.ext {h h' : Heap} (e : Ext h h') {c : Co} {vs : List V} (H : CoIn h c vs) : CoIn h' c vs := by
  induction H with
  | mk ha ht hr hl hu kids ih => exact .mk (ha.ext e) (ht.ext e) hr (hl.ext e) hu ih
theorem CosIn.ext {h h' : Heap} (e : Ext h h') {l : List Co} {v : V} (H : CosIn h l v) : CosIn h' l v := by
  obtain ⟨hr, us, h1, h2, h3⟩ := H
  exact ⟨hr, us, h1.ext e, h2, fun i c u q1 q2 => (h3 i c u q1 q2).ext e⟩
theorem CoIn.len {h : Heap} {c : Co} {vs : List V} (H : CoIn h c vs) : vs.length = 7 := by cases H; rfl
theorem CoIn.open {h : Heap} {c : Co} {vs : List V} (H : CoIn h c vs) : ∃ va vt vl, vs = [.int .i64 c.k, .int .i64 c.x, .int .i64 c.n, .str c.s, va, vt, vl] ∧ SlV h 3 va c.a.length (atsV c.a) ∧ SlV h 1 vt c.t.length (intsV c.t) ∧ CosIn h c.l vl := by
  cases H with
  | mk ha ht hr hl hu kids => exact ⟨_, _, _, rfl, ha, ht, hr, _, hl, hu, kids⟩
theorem flat7 : ∀ (us : List (List V)) (i : Nat) (u : List V), (∀ u ∈ us, u.length = 7) → us[i]? = some u → (us.flatten.drop (i * 7)).take 7 = u
  | [], i, u, _, h => by simp at h
  | w :: us, 0, u, hl, h => by
    simp only [List.getElem?_cons_zero, Option.some.injEq] at h
    subst h
    rw [Nat.zero_mul, List.drop_zero, List.flatten_cons, List.take_left' (hl _ (by simp))]
  | w :: us, i + 1, u, hl, h => by
    rw [show (i + 1) * 7 = 7 + i * 7 from by omega, ← List.drop_drop, List.flatten_cons, List.drop_left' (hl _ (by simp))]
    exact flat7 us i u (fun u hu => hl u (by simp [hu])) (by simpa using h)
theorem flat7_len : ∀ (us : List (List V)), (∀ u ∈ us, u.length = 7) → us.flatten.length = us.length * 7
  | [], _ => rfl
  | w :: us, hl => by rw [List.flatten_cons, List.length_append, hl w (by simp), flat7_len us (fun u hu => hl u (by simp [hu])), List.length_cons]; omega
theorem CosIn.len {h : Heap} {l : List Co} {v : V} (H : CosIn h l v) : lenSl v = some (.int .i64 l.length) := by
  obtain ⟨_, us, h1, _⟩ := H
  exact h1.len
theorem CosIn.one {h : Heap} {l : List Co} {v : V} (H : CosIn h l v) : v.one = true ∧ v.cells = [v] ∧ v.good = true := by
  obtain ⟨_, us, h1, _⟩ := H
  exact h1.one
theorem CosIn.at {h : Heap} {l : List Co} {v : V} (H : CosIn h l v) {k : IntKind} {i : Nat} (hi : i < l.length) :
    ∃ b off u, iaV 7 v (.int k i) = some (.ptr b (off + i * 7)) ∧ CoIn h l[i] u ∧ ldnB 7 (h.get b) (off + i * 7) = some (.agg u) ∧ ∀ j, j < 7 → ld1B (h.get b) (off + i * 7 + j) = u[j]? := by
  obtain ⟨hr, us, h1, h2, h3⟩ := H
  have hl7 : ∀ u ∈ us, u.length = 7 := by
    intro u hu
    obtain ⟨j, hj⟩ := List.getElem?_of_mem hu
    have hjl : j < l.length := by rw [← h2]; exact (List.getElem?_eq_some_iff.1 hj).1
    exact (h3 j l[j] u (List.getElem?_eq_getElem hjl) hj).len
  have hiu : i < us.length := by omega
  have hu := List.getElem?_eq_getElem hiu
  obtain ⟨b, off, e1, e2⟩ := h1.ia (k := k) hi
  have hf := flat7 us i _ hl7 hu
  have hfl := flat7_len us hl7
  refine ⟨b, off, us[i], e1, h3 i _ _ (List.getElem?_eq_getElem hi) hu, ?_, fun j hj => ?_⟩
  · rw [e2.ldn (i := i * 7) (n := 7) (by omega), hf]
  · exact e2.cell hf (by omega) hj
theorem CosIn.atx {h : Heap} {l : List Co} {v : V} (H : CosIn h l v) {k : IntKind} {i : Nat} (hi : i < l.length) :
    ∃ b off u, iaV 7 v (.int k i) = some (.ptr b (off + i * 7)) ∧ CoIn h l[i] u ∧ ∀ h', Ext h h' → ldnB 7 (h'.get b) (off + i * 7) = some (.agg u) ∧ ∀ j, j < 7 → ld1B (h'.get b) (off + i * 7 + j) = u[j]? := by
  obtain ⟨hr, us, h1, h2, h3⟩ := H
  have hl7 : ∀ u ∈ us, u.length = 7 := by
    intro u hu
    obtain ⟨j, hj⟩ := List.getElem?_of_mem hu
    have hjl : j < l.length := by rw [← h2]; exact (List.getElem?_eq_some_iff.1 hj).1
    exact (h3 j l[j] u (List.getElem?_eq_getElem hjl) hj).len
  have hiu : i < us.length := by omega
  have hu := List.getElem?_eq_getElem hiu
  obtain ⟨b, off, e1, e2⟩ := h1.ia (k := k) hi
  have hf := flat7 us i _ hl7 hu
  have hfl := flat7_len us hl7
  refine ⟨b, off, us[i], e1, h3 i _ _ (List.getElem?_eq_getElem hi) hu, fun h' e => ⟨?_, fun j hj => ?_⟩⟩
  · rw [(e2.ext e).ldn (i := i * 7) (n := 7) (by omega), hf]
  · exact (e2.ext e).cell hf (by omega) hj
theorem CosIn.lens {h : Heap} {l : List Co} {us : List (List V)} (h2 : us.length = l.length) (h3 : ∀ (i : Nat) (c : Co) (u : List V), l[i]? = some c → us[i]? = some u → CoIn h c u) : ∀ u ∈ us, u.length = 7 := by
  intro u hu
  obtain ⟨j, hj⟩ := List.getElem?_of_mem hu
  have hjl : j < l.length := by rw [← h2]; exact (List.getElem?_eq_some_iff.1 hj).1
  exact (h3 j l[j] u (List.getElem?_eq_getElem hjl) hj).len
theorem CosIn.cut {h : Heap} {l : List Co} {v : V} (H : CosIn h l v) {k : IntKind} {m : Nat} (hm : m ≤ l.length) : ∃ v', sliceV 7 v none (some (.int k m)) none = some v' ∧ CosIn h (l.take m) v' := by
  obtain ⟨hr, us, h1, h2, h3⟩ := H
  have hl7 := CosIn.lens h2 h3
  obtain ⟨v', e1, e2, e3⟩ := h1.cut (k := k) (k' := k) (lo := 0) (hi := m) (Nat.zero_le _) hm none (some (.int k m)) (.inr ⟨rfl, rfl⟩) (.inl rfl) hr
  refine ⟨v', e1, ?_, us.take m, ?_, ?_, ?_⟩
  · intro b off l' c' e
    subst e
    cases v <;> simp only [sliceV] at e1
    case nilslice => unfold sliceNil at e1; simp only [bound_none] at e1; split at e1 <;> cases e1
    case slice b0 off0 len0 cap0 =>
      have hc := hr _ _ _ _ rfl
      have hlen : len0 = l.length := h1.2.1
      unfold sliceKnown at e1
      simp only [bound_some (k := k) (d := len0) (y := cap0) (m := m) (by omega), bound_none, Option.some.injEq, V.slice.injEq] at e1
      omega
    case gslice b0 off0 len0 idx0 =>
      unfold sliceGrown at e1
      have hlen : len0 = l.length := h1.2.1
      simp only [bound_some (k := k) (d := len0) (y := len0) (m := m) (by omega), bound_none] at e1
      cases hc : Nat.blt 0 len0 with
      | true => rw [hc] at e1; cases e1
      | false => rw [hc] at e1; cases e1
    case tslice b0 off0 off1 idx0 =>
      unfold sliceTail at e1
      simp only [bound_none] at e1
      split at e1 <;> cases e1
    all_goals cases e1
  · rw [List.length_take, Nat.min_eq_left hm]
    have hfl := flat7_len us hl7
    have : (us.take m).flatten = us.flatten.take (m * 7) := by
      have hs : us = us.take m ++ us.drop m := (List.take_append_drop m us).symm
      have ht7 : ∀ u ∈ us.take m, u.length = 7 := fun u hu => hl7 u (List.mem_of_mem_take hu)
      have htl := flat7_len (us.take m) ht7
      conv => rhs; rw [hs, List.flatten_append]
      rw [List.take_left' (by rw [htl, List.length_take, h2, Nat.min_eq_left hm])]
    rw [this]
    simpa using e2
  · rw [List.length_take, List.length_take, h2]
  · intro i c u q1 q2
    rw [List.getElem?_take] at q1 q2
    split at q1
    · rename_i hi
      rw [if_pos hi] at q2
      exact h3 i c u q1 q2
    · cases q1
theorem ats_at {h : Heap} {l : List At} {v : V} (H : SlV h 3 v l.length (atsV l)) {k : IntKind} {i : Nat} (hi : i < l.length) :
    ∃ b off, iaV 3 v (.int k i) = some (.ptr b (off + i * 3)) ∧ ldnB 3 (h.get b) (off + i * 3) = some (.agg l[i].enc) ∧ ∀ j, j < 3 → ld1B (h.get b) (off + i * 3 + j) = (l[i].enc)[j]? := by
  obtain ⟨b, off, e1, e2⟩ := H.ia (k := k) hi
  refine ⟨b, off, e1, ?_, fun j hj => e2.cell (atsV_at l i hi) (by rw [atsV_len]; omega) hj⟩
  rw [e2.ldn (i := i * 3) (n := 3) (by rw [atsV_len]; omega), atsV_at l i hi]
theorem ints_at {h : Heap} {l : List Int} {v : V} (H : SlV h 1 v l.length (intsV l)) {k : IntKind} {i : Nat} (hi : i < l.length) :
    ∃ b off, iaV 1 v (.int k i) = some (.ptr b (off + i * 1)) ∧ ld1B (h.get b) (off + i * 1) = some (.int .i64 l[i]) := by
  obtain ⟨b, off, e1, e2⟩ := H.ia (k := k) hi
  refine ⟨b, off, e1, ?_⟩
  rw [Nat.mul_one, e2.ld1 (by rw [intsV_len]; exact hi)]
  simp [intsV]
theorem iaa_eq (n s : Nat) (b : Pa) (o : Nat) (k : IntKind) (i : Int) : (indexArr n s).run (.ptr b o) (.int k i) = if 0 ≤ i ∧ i < (n : Int) then some (.ptr b (o + i.toNat * s)) else none := by
  simp only [indexArr, V.onInt, V.onPtr, inRange, leB_dec]
  by_cases h1 : 0 ≤ i <;> by_cases h2 : i < (n : Int)
  · have : ¬ (n : Int) ≤ i := by omega
    simp [h1, h2, this]
  · have : (n : Int) ≤ i := by omega
    simp [h1, h2, this]
  · simp [h1]
  · simp [h1]
theorem askg_look {P : Program} {d : Option Nat} {k : KK} {z : V} {ok : Bool} {x i : RX} {j : Nat} {want : Bool} {rs : List Nat} {e : EntF} {H : Heap} : askK P ⟨d, .look k z ok x i, some (j, want), rs⟩ e H =
    (isGate (e.r.trim rs j) ∧ Imp (took (e.r.trim rs j) want) ((lookupV k.eq z ok H (x.ev (e.r.trim rs)) (i.ev (e.r.trim rs))).isSome = true) ∧ V.opt (took (e.r.trim rs j) want) ((lookupV k.eq z ok H (x.ev (e.r.trim rs)) (i.ev (e.r.trim rs))).getD .bad) = e.v) := ask_gpure rfl
theorem w_inc {i n : Nat} (h : i < n) (hn : n ≤ 4611686018427387904) : IntKind.i64.wrap ((i : Int) + 1) = ((i + 1 : Nat) : Int) := by
  rw [wrap_i64 (by omega) (by omega)]
  rfl
end Go.Proofs.YtjbiefneffiogaaGreat

namespace Go.Proofs.YtjbiefneffiogaaGreat
open Go Am
inductive Ro where
  | no | env | mach | wts | out
  | val (i : Nat)
  | fld (i : Nat)
abbrev Ks := Pa → Ro
open Classical in
noncomputable def Kp (K : Ks) (p : Pa → Prop) (r : Ro) : Ks := fun b => if p b then r else K b
theorem Kp_yes {K : Ks} {p : Pa → Prop} {r : Ro} {b : Pa} (h : p b) : Kp K p r b = r := if_pos h
theorem Kp_no {K : Ks} {p : Pa → Prop} {r : Ro} {b : Pa} (h : ¬ p b) : Kp K p r b = K b := if_neg h
def blkOf (ad : List Pa) (j : Nat) : Pa := ad.getD j .z
def ptrA (ad : List Pa) (j : Nat) : V := .ptr (blkOf ad j) 0
inductive EnvR (h : Heap) (K : Ks) (ad : List Pa) : V → En → Prop
  | nil : EnvR h K ad .nilptr []
  | cons {b : Pa} {n : Int} {j : Nat} {p : V} {L : En} (hK : K b = .env) (hg : h.get b = .ofL [.int .i64 n, ptrA ad j, p] 0 false) (hj : j < ad.length) (hr : EnvR h K ad p L) : EnvR h K ad (.ptr b 0) ((n, j) :: L)
structure Tr (h0 : Heap) (K : Ks) (h : Heap) (ad : List Pa) (K' : Ks) (h' : Heap) (ad' : List Pa) (ch : Ro → Prop) : Prop where
  next : h.next ≤ h'.next
  role : ∀ b, K b ≠ .no → K' b = K b
  fresh : ∀ b, K b = .no → K' b ≠ .no → h.next ≤ unPa b ∧ unPa b < h'.next
  get : ∀ b, K b ≠ .no → ¬ ch (K b) → h'.get b = h.get b
  low : ∀ b, unPa b < h0.next → h'.get b = h.get b
  ad : ∃ t, ad' = ad ++ t
theorem blkOf_app {ad t : List Pa} {j : Nat} (hj : j < ad.length) : blkOf (ad ++ t) j = blkOf ad j := by
  unfold blkOf
  rw [List.getD_eq_getElem?_getD, List.getD_eq_getElem?_getD, List.getElem?_append_left hj]
theorem ptrA_app {ad t : List Pa} {j : Nat} (hj : j < ad.length) : ptrA (ad ++ t) j = ptrA ad j := by
  unfold ptrA; rw [blkOf_app hj]
theorem ptrA_map {ad t : List Pa} {fs : List Nat} (h : ∀ j ∈ fs, j < ad.length) : fs.map (ptrA (ad ++ t)) = fs.map (ptrA ad) :=
  List.map_congr_left fun j hj => ptrA_app (h j hj)
section
variable {h0 h h' h'' : Heap} {K K' K'' : Ks} {ad ad' ad'' : List Pa} {ch ch' : Ro → Prop}
theorem Tr.len (t : Tr h0 K h ad K' h' ad' ch) : ad.length ≤ ad'.length := by
  obtain ⟨u, rfl⟩ := t.ad; simp
theorem Tr.blk (t : Tr h0 K h ad K' h' ad' ch) {j : Nat} (hj : j < ad.length) : blkOf ad' j = blkOf ad j := by
  obtain ⟨u, rfl⟩ := t.ad; exact blkOf_app hj
theorem Tr.ptr (t : Tr h0 K h ad K' h' ad' ch) {j : Nat} (hj : j < ad.length) : ptrA ad' j = ptrA ad j := by
  obtain ⟨u, rfl⟩ := t.ad; exact ptrA_app hj
theorem Tr.ptrs (t : Tr h0 K h ad K' h' ad' ch) {fs : List Nat} (hj : ∀ j ∈ fs, j < ad.length) : fs.map (ptrA ad') = fs.map (ptrA ad) := by
  obtain ⟨u, rfl⟩ := t.ad; exact ptrA_map hj
theorem Tr.of_ext (e : Ext h h') (hn : ∀ b, K b ≠ .no → unPa b < h.next) (h0n : h0.next ≤ h.next) : Tr h0 K h ad K h' ad ch :=
  ⟨e.next, fun _ _ => rfl, fun _ h h' => absurd h h', fun b hb _ => e.get b (hn b hb), fun b hb => e.get b (Nat.lt_of_lt_of_le hb h0n), [], by simp⟩
theorem Tr.of_set {b : Pa} {k : Blk} (hb : ch (K b)) (hlo : h0.next ≤ unPa b) : Tr h0 K h ad K (h.set b k) ad ch := by
  refine ⟨Nat.le_refl _, fun _ _ => rfl, fun _ h h' => absurd h h', fun c hc hn => ?_, fun c hc => ?_, [], by simp⟩
  · rw [get_set, if_neg]
    rintro rfl
    exact hn hb
  · rw [get_set, if_neg]
    rintro rfl
    omega
theorem EnvR.tr {p : V} {L : En} (H : EnvR h K ad p L) (t : Tr h0 K h ad K' h' ad' ch) (hc : ¬ ch .env) : EnvR h' K' ad' p L := by
  induction H with
  | nil => exact .nil
  | @cons b _ _ _ _ hK hg hj hr ih =>
    have hb : K b ≠ .no := by rw [hK]; exact fun q => by cases q
    refine .cons (by rw [t.role _ hb]; exact hK) ?_ (Nat.lt_of_lt_of_le hj t.len) ih
    rw [t.get _ hb (by rw [hK]; exact hc), hg, t.ptr hj]
theorem ofL_inj {vs ws : List V} {a a' : Nat} {b b' : Bool} (e : Blk.ofL vs a b = Blk.ofL ws a' b') : vs = ws := by
  apply List.ext_getElem?
  intro i
  rw [← ld1_ofL vs a b i, ← ld1_ofL ws a' b' i, e]
theorem EnvR.same {p : V} {L : En} (H : EnvR h K ad p L) : ∀ {L' : En}, EnvR h K ad p L' → L'.length = L.length := by
  induction H with
  | nil => intro L' H'; cases H'; rfl
  | cons hK hg hj hr ih =>
    intro L' H'
    cases H' with
    | cons hK' hg' hj' hr' =>
      rw [hg] at hg'
      have := ofL_inj hg'
      simp only [List.cons.injEq] at this
      obtain ⟨_, _, rfl, _⟩ := this
      rw [List.length_cons, List.length_cons, ih hr']
open Classical in
noncomputable def elen (h : Heap) (K : Ks) (ad : List Pa) (p : V) : Nat := if H : ∃ L, EnvR h K ad p L then H.choose.length else 0
theorem EnvR.elen {p : V} {L : En} (H : EnvR h K ad p L) : elen h K ad p = L.length := by
  unfold Go.Proofs.YtjbiefneffiogaaGreat.elen
  rw [dif_pos ⟨L, H⟩]
  exact H.same (Exists.choose_spec (⟨L, H⟩ : ∃ L, EnvR h K ad p L))
theorem EnvR.one {p : V} {L : En} (H : EnvR h K ad p L) : p.one = true ∧ p.cells = [p] ∧ p.good = true := by
  cases H <;> exact ⟨rfl, rfl, rfl⟩
theorem Tr.mod (t : Tr h0 K h ad K' h' ad' ch) : Mod (fun b => K b = .no ∨ ch (K b)) h h' :=
  ⟨t.next, fun b _ hb => t.get b (fun q => hb (.inl q)) (fun q => hb (.inr q))⟩
theorem SlO.tr {B size n : Nat} {v : V} {vs : List V} (H : SlO B h size v n vs) (t : Tr h0 K h ad K' h' ad' ch) {r : Ro} (hr : ∀ b, v.blk b → K b = r) (h1 : r ≠ .no) (h2 : ¬ ch r) : SlO B h' size v n vs :=
  H.mod t.mod fun b q e => by
    have := hr b q
    rw [this] at e
    rcases e with e | e
    · exact h1 e
    · exact h2 e
structure Sty where
  VR : Heap → PV → V → V → List V → Prop
  WR : Heap → Wt → V → List V → Prop
  wsz : Nat
  CR : Heap → Co → List V → Prop
  lay : V → V → Int → Int → V → Int → Int → Bool → List V → V → V → List V
def FldR (h0 h : Heap) (K : Ks) (ad : List Pa) (i : Nat) (v : PV) (fl : V) : Prop :=
  match v with
  | .thing _ fs => SlO h0.next h 1 fl fs.length (fs.map (ptrA ad)) ∧ (∀ b, fl.blk b → K b = .fld i) ∧ ∀ j ∈ fs, j < ad.length
  | _ => True
def EnvV (h : Heap) (K : Ks) (ad : List Pa) (v : PV) (ep : V) : Prop :=
  match v with
  | .fn _ _ e => EnvR h K ad ep e
  | _ => True
theorem FldR.tr {i : Nat} {v : PV} {fl : V} (H : FldR h0 h K ad i v fl) (t : Tr h0 K h ad K' h' ad' ch) (hc : ¬ ch (.fld i)) : FldR h0 h' K' ad' i v fl := by
  cases v <;> first | trivial | skip
  obtain ⟨q1, q2, q3⟩ := H
  refine ⟨?_, fun b hb => ?_, fun j hj => Nat.lt_of_lt_of_le (q3 j hj) t.len⟩
  · rw [t.ptrs q3]
    exact SlO.tr q1 t q2 (by simp) hc
  · rw [t.role b (by rw [q2 b hb]; simp), q2 b hb]
theorem EnvV.tr {v : PV} {ep : V} (H : EnvV h K ad v ep) (t : Tr h0 K h ad K' h' ad' ch) (hc : ¬ ch .env) : EnvV h' K' ad' v ep := by
  cases v <;> first | trivial | exact EnvR.tr H t hc
def ValR (Y : Sty) (h0 h : Heap) (K : Ks) (ad : List Pa) (i : Nat) (v : PV) : Prop :=
  K (blkOf ad i) = .val i ∧ ∃ fl ep cs, h.get (blkOf ad i) = .ofL cs 0 false ∧ Y.VR h0 v fl ep cs ∧ FldR h0 h K ad i v fl ∧ EnvV h K ad v ep
theorem ValR.tr {Y : Sty} {i : Nat} {v : PV} (H : ValR Y h0 h K ad i v) (hi : i < ad.length) (t : Tr h0 K h ad K' h' ad' ch) (h1 : ¬ ch (.val i)) (h2 : ¬ ch (.fld i)) (h3 : ¬ ch .env) : ValR Y h0 h' K' ad' i v := by
  obtain ⟨q1, fl, ep, cs, q2, q3, q4, q5⟩ := H
  have hb : K (blkOf ad i) ≠ .no := by rw [q1]; simp
  refine ⟨by rw [t.blk hi, t.role _ hb, q1], fl, ep, cs, ?_, q3, q4.tr t h2, q5.tr t h3⟩
  rw [t.blk hi, t.get _ hb (by rw [q1]; exact h1), q2]
structure Rep (Y : Sty) (h0 h : Heap) (K : Ks) (ad : List Pa) (st : List PV) : Prop where
  ext : Ext h0 h
  new : ∀ b, K b ≠ .no → h0.next ≤ unPa b ∧ unPa b < h.next
  len : ad.length = st.length
  val : ∀ i v, st[i]? = some v → ValR Y h0 h K ad i v
theorem Tr.ext (t : Tr h0 K h ad K' h' ad' ch) (e : Ext h0 h) : Ext h0 h' := ⟨Nat.le_trans e.next t.next, fun b hb => (t.low b hb).trans (e.get b hb)⟩
theorem Tr.news (t : Tr h0 K h ad K' h' ad' ch) (e : Ext h0 h) (n : ∀ b, K b ≠ .no → h0.next ≤ unPa b ∧ unPa b < h.next) : ∀ b, K' b ≠ .no → h0.next ≤ unPa b ∧ unPa b < h'.next := by
  intro b hb
  have hn := t.next
  have h0n := e.next
  by_cases q : K b = .no
  · have := t.fresh b q hb; omega
  · have := n b q; omega
theorem Rep.tr {Y : Sty} {st : List PV} (H : Rep Y h0 h K ad st) (t : Tr h0 K h ad K' h' ad ch) (h1 : ∀ i, ¬ ch (.val i)) (h2 : ∀ i, ¬ ch (.fld i)) (h3 : ¬ ch .env) : Rep Y h0 h' K' ad st :=
  ⟨t.ext H.ext, t.news H.ext H.new, H.len, fun i v q => (H.val i v q).tr (by rw [H.len]; exact (List.getElem?_eq_some_iff.1 q).1) t (h1 i) (h2 i) h3⟩
theorem Rep.turn {Y : Sty} {st : List PV} (H : Rep Y h0 h K ad st) {i : Nat} {v : PV} (t : Tr h0 K h ad K' h' ad ch) (h1 : ∀ j, j ≠ i → ¬ ch (.val j)) (h2 : ∀ j, j ≠ i → ¬ ch (.fld j)) (h3 : ¬ ch .env) (hv : ValR Y h0 h' K' ad i v) : Rep Y h0 h' K' ad (st.set i v) := by
  refine ⟨t.ext H.ext, t.news H.ext H.new, by rw [List.length_set]; exact H.len, fun j u q => ?_⟩
  by_cases hj : j = i
  · subst hj
    rw [List.getElem?_set_self' ] at q
    cases hs : st[j]? with
    | none => rw [hs] at q; cases q
    | some w => rw [hs] at q; simp at q; subst q; exact hv
  · rw [List.getElem?_set_ne (by omega)] at q
    exact (H.val j u q).tr (by rw [H.len]; exact (List.getElem?_eq_some_iff.1 q).1) t (h1 j hj) (h2 j hj) h3
theorem Rep.push {Y : Sty} {st : List PV} (H : Rep Y h0 h K ad st) {b : Pa} {v : PV} (t : Tr h0 K h ad K' h' (ad ++ [b]) ch) (h1 : ∀ j, ¬ ch (.val j)) (h2 : ∀ j, ¬ ch (.fld j)) (h3 : ¬ ch .env) (hv : ValR Y h0 h' K' (ad ++ [b]) st.length v) : Rep Y h0 h' K' (ad ++ [b]) (st ++ [v]) := by
  refine ⟨t.ext H.ext, t.news H.ext H.new, by simp [H.len], fun j u q => ?_⟩
  by_cases hj : j < st.length
  · rw [List.getElem?_append_left hj] at q
    exact (H.val j u q).tr (by rw [H.len]; exact hj) t (h1 j) (h2 j) h3
  · have hjl : j < (st ++ [v]).length := (List.getElem?_eq_some_iff.1 q).1
    rw [List.length_append] at hjl
    simp only [List.length_cons, List.length_nil] at hjl
    obtain rfl : j = st.length := by omega
    simp at q
    subst q
    exact hv
end
end Go.Proofs.YtjbiefneffiogaaGreat

namespace Go.Proofs.YtjbiefneffiogaaGreat
open Go Am
def c149l1 : RC :=
 .seq (.seq (.reg [⟨some 5, .mv (.t 0), none, [0]⟩,
 ⟨some 6, .nilck (.t 5), none, [5]⟩,
 ⟨some 7, .fa 0 (.t 6), none, [6]⟩,
 ⟨some 8, .ld1 (.t 7), none, [7]⟩,
 ⟨some 9, .mv (.t 1), none, [1]⟩,
 ⟨some 10, .bin (.int .neq) (.t 8) (.t 9), none, [8, 9]⟩])
 (.cond (.t 10)
 (.skip)
 (.exit 0)))
 (.block 1 (.reg [⟨some 11, .mv (.t 0), none, [0]⟩,
 ⟨some 12, .nilck (.t 11), none, [11]⟩,
 ⟨some 13, .fa 2 (.t 12), none, [12]⟩,
 ⟨some 14, .ld1 (.t 13), none, [13]⟩,
 ⟨some 0, .mv (.t 14), none, [14]⟩]))
def c149 : RC :=
 .seq (.reg [⟨some 4, .mv (.c .nilptr), none, []⟩])
 (.seq (.block 0 (.loop c149l1))
 (.seq (.reg [⟨some 15, .mv (.t 0), none, [0]⟩,
 ⟨some 16, .nilck (.t 15), none, [15]⟩,
 ⟨some 17, .fa 1 (.t 16), none, [16]⟩,
 ⟨some 18, .ld1 (.t 17), none, [17]⟩,
 ⟨some 4, .mv (.t 18), none, [18]⟩])
 (.ret)))
theorem c149_ctr : CtrOf 149 19 [.t 4] c149 := ctrOf Tryz.func149 (by kernel_rfl) (by kernel_rfl) rfl (by kernel_rfl) (by kernel_rfl)
def c152 : RC :=
 .seq (.reg [⟨some 6, .mv (.c .nilptr), none, []⟩])
 (.seq (.reg [⟨some 7, .mv (.t 1), none, [1]⟩,
 ⟨some 8, .mv (.t 2), none, [2]⟩,
 ⟨some 9, .mv (.t 0), none, [0]⟩,
 ⟨some 10, .build [(.int .i64 0), .nilptr, .nilptr] [(0, 1, (.t 7)), (1, 1, (.t 8)), (2, 1, (.t 9))], none, [7, 8, 9]⟩,
 ⟨some 11, .box (.t 10), none, [10]⟩,
 ⟨some 6, .mv (.t 11), none, [11]⟩])
 (.ret))
theorem c152_ctr : CtrOf 152 12 [.t 6] c152 := ctrOf Tryz.func152 (by kernel_rfl) (by kernel_rfl) rfl (by kernel_rfl) (by kernel_rfl)
def c79 : RC :=
 .seq (.reg [⟨some 2, .mv (.c .nilptr), none, []⟩])
 (.seq (.reg [⟨some 3, .mv (.t 0), none, [0]⟩,
 ⟨some 4, .build [(.int .i64 0), (.int .i64 0), (.str []), .nilslice, .nilptr, .nilptr, (.bool false)] [(0, 1, (.c (.int .i64 1))), (1, 1, (.t 3))], none, [3]⟩,
 ⟨some 5, .box (.t 4), none, [4]⟩,
 ⟨some 2, .mv (.t 5), none, [5]⟩])
 (.ret))
theorem c79_ctr : CtrOf 79 6 [.t 2] c79 := ctrOf Tryz.func79 (by kernel_rfl) (by kernel_rfl) rfl (by kernel_rfl) (by kernel_rfl)
def c102 : RC :=
 .seq (.reg [⟨some 4, .mv (.c .nilptr), none, []⟩])
 (.seq (.reg [⟨some 5, .mv (.t 0), none, [0]⟩,
 ⟨some 6, .mv (.t 1), none, [1]⟩,
 ⟨some 7, .build [(.int .i64 0), (.int .i64 0), (.str []), .nilslice, .nilptr, .nilptr, (.bool false)] [(0, 1, (.c (.int .i64 4))), (1, 1, (.t 5)), (3, 1, (.t 6))], none, [5, 6]⟩,
 ⟨some 8, .box (.t 7), none, [7]⟩,
 ⟨some 4, .mv (.t 8), none, [8]⟩])
 (.ret))
theorem c102_ctr : CtrOf 102 9 [.t 4] c102 := ctrOf Tryz.func102 (by kernel_rfl) (by kernel_rfl) rfl (by kernel_rfl) (by kernel_rfl)
def c84 : RC :=
 .seq (.reg [⟨some 2, .mv (.c .nilptr), none, []⟩])
 (.seq (.seq (.reg [⟨some 3, .mv (.t 0), none, [0]⟩])
 (.cond (.t 3)
 (.seq (.reg [⟨some 4, .call 102 [(.c (.int .i64 1)), (.c .nilslice)], none, []⟩,
 ⟨some 2, .mv (.t 4), none, [4]⟩])
 (.ret))
 (.skip)))
 (.seq (.reg [⟨some 5, .call 102 [(.c (.int .i64 0)), (.c .nilslice)], none, []⟩,
 ⟨some 2, .mv (.t 5), none, [5]⟩])
 (.ret)))
theorem c84_ctr : CtrOf 84 6 [.t 2] c84 := ctrOf Tryz.func84 (by kernel_rfl) (by kernel_rfl) rfl (by kernel_rfl) (by kernel_rfl)
def c148 : RC :=
 .seq (.reg [⟨some 2, .mv (.c .nilptr), none, []⟩])
 (.seq (.reg [⟨some 3, .mv (.t 0), none, [0]⟩,
 ⟨some 4, .build [(.int .i64 0), (.int .i64 0), (.str []), .nilslice, .nilptr, .nilptr, (.bool false)] [(0, 1, (.c (.int .i64 2))), (2, 1, (.t 3))], none, [3]⟩,
 ⟨some 5, .box (.t 4), none, [4]⟩,
 ⟨some 2, .mv (.t 5), none, [5]⟩])
 (.ret))
theorem c148_ctr : CtrOf 148 6 [.t 2] c148 := ctrOf Tryz.func148 (by kernel_rfl) (by kernel_rfl) rfl (by kernel_rfl) (by kernel_rfl)
def c80 : RC :=
 .seq (.reg [⟨some 2, .mv (.c (.int .i64 0)), none, []⟩])
 (.seq (.reg [⟨some 3, .mv (.t 0), none, [0]⟩,
 ⟨some 4, .bin .shl (.t 3) (.c (.int .u64 1)), none, [3]⟩,
 ⟨some 5, .cv (.int .i32) (.t 4), none, [4]⟩,
 ⟨some 6, .cv (.int .i64) (.t 5), none, [5]⟩,
 ⟨some 7, .bin .shr (.t 6) (.c (.int .u64 1)), none, [6]⟩,
 ⟨some 2, .mv (.t 7), none, [7]⟩])
 (.ret))
theorem c80_ctr : CtrOf 80 8 [.t 2] c80 := ctrOf Tryz.func80 (by kernel_rfl) (by kernel_rfl) rfl (by kernel_rfl) (by kernel_rfl)
def c103 : RC :=
 .reg [⟨some 4, .mv (.t 0), none, [0]⟩,
 ⟨some 5, .mv (.t 0), none, [0]⟩,
 ⟨some 6, .mv (.t 1), none, [1]⟩,
 ⟨some 7, .nilck (.t 4), none, [4]⟩,
 ⟨some 8, .fa 6 (.t 7), none, [7]⟩,
 ⟨none, .st 1 (.t 8) (.c (.bool true)), none, [8]⟩,
 ⟨some 9, .nilck (.t 5), none, [5]⟩,
 ⟨some 10, .fa 1 (.t 9), none, [9]⟩,
 ⟨some 11, .fa 0 (.t 10), none, [10]⟩,
 ⟨none, .st 1 (.t 11) (.t 6), none, [11, 6]⟩]
theorem c103_ctr : CtrOf 103 12 [] c103 := ctrOf Tryz.func103 (by kernel_rfl) (by kernel_rfl) rfl (by kernel_rfl) (by kernel_rfl)
def c150 : RC :=
 .seq (.reg [⟨some 2, .new [(.bool false), (.int .i64 0), .nilptr, .nilptr], none, []⟩,
 ⟨some 3, .mv (.c (.bool false)), none, []⟩])
 (.seq (.reg [⟨some 6, .mv (.t 0), none, [0]⟩,
 ⟨some 7, .nilck (.t 6), none, [6]⟩,
 ⟨some 8, .fa 9 (.t 7), none, [7]⟩,
 ⟨some 9, .ld1 (.t 8), none, [8]⟩,
 ⟨some 10, .len .slice (.t 9), none, [9]⟩,
 ⟨some 4, .mv (.t 10), none, [10]⟩])
 (.seq (.seq (.reg [⟨some 11, .mv (.t 4), none, [4]⟩,
 ⟨some 12, .bin (.int .eql) (.t 11) (.c (.int .i64 0)), none, [11]⟩])
 (.cond (.t 12)
 (.seq (.reg [⟨some 13, .build [(.bool false), (.int .i64 0), .nilptr, .nilptr] [], none, []⟩,
 ⟨none, .st 4 (.t 2) (.t 13), none, [2, 13]⟩,
 ⟨some 3, .mv (.c (.bool false)), none, []⟩])
 (.ret))
 (.skip)))
 (.seq (.reg [⟨some 14, .mv (.t 0), none, [0]⟩,
 ⟨some 15, .nilck (.t 14), none, [14]⟩,
 ⟨some 16, .fa 9 (.t 15), none, [15]⟩,
 ⟨some 17, .ld1 (.t 16), none, [16]⟩,
 ⟨some 18, .mv (.t 4), none, [4]⟩,
 ⟨some 19, .bin (.int .sub) (.t 18) (.c (.int .i64 1)), none, [18]⟩,
 ⟨some 20, .ia 4 (.t 17) (.t 19), none, [17, 19]⟩,
 ⟨some 21, .ldn 4 (.t 20), none, [20]⟩,
 ⟨some 5, .new [(.bool false), (.int .i64 0), .nilptr, .nilptr], none, []⟩,
 ⟨none, .st 4 (.t 5) (.t 21), none, [5, 21]⟩])
 (.seq (.reg [⟨some 22, .mv (.t 0), none, [0]⟩,
 ⟨some 23, .mv (.t 0), none, [0]⟩,
 ⟨some 24, .nilck (.t 23), none, [23]⟩,
 ⟨some 25, .fa 9 (.t 24), none, [24]⟩,
 ⟨some 26, .ld1 (.t 25), none, [25]⟩,
 ⟨some 27, .mv (.t 4), none, [4]⟩,
 ⟨some 28, .bin (.int .sub) (.t 27) (.c (.int .i64 1)), none, [27]⟩,
 ⟨some 29, .sl 4 (.t 26) none (some (.t 28)) none, none, [26, 28]⟩,
 ⟨some 30, .nilck (.t 22), none, [22]⟩,
 ⟨some 31, .fa 9 (.t 30), none, [30]⟩,
 ⟨none, .st 1 (.t 31) (.t 29), none, [31, 29]⟩])
 (.seq (.reg [⟨some 32, .ldn 4 (.t 5), none, [5]⟩,
 ⟨none, .st 4 (.t 2) (.t 32), none, [2, 32]⟩,
 ⟨some 3, .mv (.c (.bool true)), none, []⟩])
 (.ret))))))
theorem c150_ctr : CtrOf 150 33 [.cn 2 4, .t 3] c150 := ctrOf Tryz.func150 (by kernel_rfl) (by kernel_rfl) rfl (by kernel_rfl) (by kernel_rfl)
def c151 : RC :=
 .seq (.reg [⟨some 4, .box (.t 1), none, [1]⟩])
 (.draw [⟨some 6, .mv (.t 0), none, [0]⟩,
 ⟨some 7, .mv (.t 0), none, [0]⟩,
 ⟨some 8, .fa 2 (.t 4), none, [4]⟩,
 ⟨some 9, .ld1 (.t 8), none, [8]⟩,
 ⟨some 10, .fa 3 (.t 4), none, [4]⟩,
 ⟨some 11, .ld1 (.t 10), none, [10]⟩,
 ⟨some 12, .fa 1 (.t 4), none, [4]⟩,
 ⟨some 13, .ld1 (.t 12), none, [12]⟩,
 ⟨some 14, .mv (.t 2), none, [2]⟩,
 ⟨some 15, .call 152 [(.t 11), (.t 13), (.t 14)], none, [11, 13, 14]⟩,
 ⟨some 16, .nilck (.t 6), none, [6]⟩,
 ⟨some 17, .fa 7 (.t 16), none, [16]⟩,
 ⟨none, .st 1 (.t 17) (.t 9), none, [17, 9]⟩,
 ⟨some 18, .nilck (.t 7), none, [7]⟩,
 ⟨some 19, .fa 8 (.t 18), none, [18]⟩,
 ⟨none, .st 1 (.t 19) (.t 15), none, [19, 15]⟩] [(3, [9, 12]), (5, [9]), (7, [9])])
theorem c151_ctr : CtrOf 151 20 [] c151 := ctrOf Tryz.func151 (by kernel_rfl) (by kernel_rfl) rfl (by kernel_rfl) (by kernel_rfl)
def c101l1 : RC :=
 .block 1 (.seq (.reg [⟨some 7, .mv (.t 0), none, [0]⟩,
 ⟨some 8, .call 150 [(.t 7)], none, [7]⟩,
 ⟨some 6, .mv (.t 8), none, [8]⟩,
 ⟨some 9, .ext (.t 6) 0, none, [6]⟩,
 ⟨some 10, .ext (.t 6) 1, none, [6]⟩,
 ⟨some 4, .new [(.bool false), (.int .i64 0), .nilptr, .nilptr], none, []⟩,
 ⟨none, .st 4 (.t 4) (.t 9), none, [4, 9]⟩,
 ⟨some 5, .mv (.t 10), none, [10]⟩])
 (.block 2 (.seq (.reg [⟨some 12, .mv (.t 5), none, [5]⟩,
 ⟨some 13, .un .not (.t 12), none, [12]⟩,
 ⟨some 11, .mv (.t 13), none, [13]⟩])
 (.cond (.t 11)
 (.seq (.reg [⟨some 14, .mv (.t 0), none, [0]⟩,
 ⟨some 15, .call 103 [(.t 14), (.c (.int .i64 0))], none, [14]⟩])
 (.ret))
 (.seq (.reg [⟨some 17, .fa 0 (.t 4), none, [4]⟩,
 ⟨some 18, .ld1 (.t 17), none, [17]⟩,
 ⟨some 19, .un .not (.t 18), none, [18]⟩,
 ⟨some 16, .mv (.t 19), none, [19]⟩])
 (.cond (.t 16)
 (.seq (.reg [⟨some 20, .mv (.t 0), none, [0]⟩,
 ⟨some 21, .ldn 4 (.t 4), none, [4]⟩,
 ⟨some 22, .mv (.t 1), none, [1]⟩,
 ⟨some 23, .call 151 [(.t 20), (.t 21), (.t 22)], none, [20, 21, 22]⟩])
 (.ret))
 (.skip)))))))
def c101 : RC :=
 .block 0 (.loop c101l1)
theorem c101_ctr : CtrOf 101 24 [] c101 := ctrOf Tryz.func101 (by kernel_rfl) (by kernel_rfl) rfl (by kernel_rfl) (by kernel_rfl)
def c108l1 : RC :=
 .block 1 (.seq (.reg [⟨some 7, .mv (.t 0), none, [0]⟩,
 ⟨some 8, .call 150 [(.t 7)], none, [7]⟩,
 ⟨some 6, .mv (.t 8), none, [8]⟩,
 ⟨some 9, .ext (.t 6) 0, none, [6]⟩,
 ⟨some 10, .ext (.t 6) 1, none, [6]⟩,
 ⟨some 4, .new [(.bool false), (.int .i64 0), .nilptr, .nilptr], none, []⟩,
 ⟨none, .st 4 (.t 4) (.t 9), none, [4, 9]⟩,
 ⟨some 5, .mv (.t 10), none, [10]⟩])
 (.seq (.block 2 (.seq (.reg [⟨some 12, .mv (.t 5), none, [5]⟩,
 ⟨some 13, .mv (.t 12), none, [12]⟩,
 ⟨some 14, .fa 0 (.t 4), (some (13, true)), [4, 13]⟩,
 ⟨some 15, .ld1 (.t 14), (some (13, true)), [14, 13]⟩,
 ⟨some 16, .pick (.t 13) (.t 15) (.c (.bool false)), none, [13, 15]⟩,
 ⟨some 11, .mv (.t 16), none, [16]⟩])
 (.cond (.t 11)
 (.seq (.reg [⟨some 17, .mv (.t 0), none, [0]⟩,
 ⟨some 18, .ldn 4 (.t 4), none, [4]⟩,
 ⟨some 19, .mv (.t 1), none, [1]⟩,
 ⟨some 20, .call 151 [(.t 17), (.t 18), (.t 19)], none, [17, 18, 19]⟩])
 (.ret))
 (.seq (.reg [⟨some 22, .mv (.t 5), none, [5]⟩,
 ⟨some 21, .mv (.t 22), none, [22]⟩])
 (.cond (.t 21)
 (.exit 1)
 (.seq (.reg [⟨some 24, .mv (.t 1), none, [1]⟩,
 ⟨some 25, .nilck (.t 24), none, [24]⟩,
 ⟨some 26, .fa 0 (.t 25), none, [25]⟩,
 ⟨some 27, .ld1 (.t 26), none, [26]⟩,
 ⟨some 28, .bin (.int .neq) (.t 27) (.c (.int .i64 4)), none, [27]⟩,
 ⟨some 23, .mv (.t 28), none, [28]⟩])
 (.cond (.t 23)
 (.seq (.reg [⟨some 29, .mv (.t 0), none, [0]⟩,
 ⟨some 30, .call 103 [(.t 29), (.c (.int .i64 6))], none, [29]⟩])
 (.ret))
 (.skip))))))))
 (.seq (.reg [⟨some 31, .mv (.t 0), none, [0]⟩,
 ⟨some 32, .call 103 [(.t 31), (.c (.int .i64 1))], none, [31]⟩])
 (.seq (.reg [⟨some 33, .mv (.t 0), none, [0]⟩,
 ⟨some 34, .mv (.t 1), none, [1]⟩,
 ⟨some 35, .nilck (.t 34), none, [34]⟩,
 ⟨some 36, .fa 1 (.t 35), none, [35]⟩,
 ⟨some 37, .ld1 (.t 36), none, [36]⟩,
 ⟨some 38, .nilck (.t 33), none, [33]⟩,
 ⟨some 39, .fa 1 (.t 38), none, [38]⟩,
 ⟨some 40, .fa 1 (.t 39), none, [39]⟩,
 ⟨none, .st 1 (.t 40) (.t 37), none, [40, 37]⟩])
 (.ret)))))
def c108 : RC :=
 .block 0 (.loop c108l1)
theorem c108_ctr : CtrOf 108 41 [] c108 := ctrOf Tryz.func108 (by kernel_rfl) (by kernel_rfl) rfl (by kernel_rfl) (by kernel_rfl)
def c146l1 : RC :=
 .seq (.reg [⟨some 12, .bin (.int .lss) (.t 11) (.t 10), none, [11, 10]⟩])
 (.seq (.cond (.t 12)
 (.skip)
 (.exit 0))
 (.seq (.block 1 (.seq (.reg [⟨some 13, .mv (.t 11), none, [11]⟩,
 ⟨some 14, .ia 1 (.t 9) (.t 11), none, [9, 11]⟩,
 ⟨some 15, .ld1 (.t 14), none, [14]⟩,
 ⟨some 7, .mv (.t 13), none, [13]⟩,
 ⟨some 8, .mv (.t 15), none, [15]⟩])
 (.seq (.reg [⟨some 16, .mv (.t 1), none, [1]⟩,
 ⟨some 17, .mv (.t 7), none, [7]⟩,
 ⟨some 18, .ia 1 (.t 16) (.t 17), none, [16, 17]⟩,
 ⟨some 19, .ld1 (.t 18), none, [18]⟩,
 ⟨some 20, .nilck (.t 19), none, [19]⟩,
 ⟨some 21, .fa 0 (.t 20), none, [20]⟩,
 ⟨some 22, .ld1 (.t 21), none, [21]⟩,
 ⟨some 23, .mv (.t 8), none, [8]⟩,
 ⟨some 24, .bin (.int .neq) (.t 22) (.t 23), none, [22, 23]⟩])
 (.cond (.t 24)
 (.seq (.reg [⟨some 25, .mv (.t 0), none, [0]⟩,
 ⟨some 26, .call 103 [(.t 25), (.c (.int .i64 6))], none, [25]⟩])
 (.seq (.reg [⟨some 6, .mv (.c (.bool false)), none, []⟩])
 (.ret)))
 (.skip)))))
 (.reg [⟨some 27, .bin (.int .add) (.t 11) (.c (.int .i64 1)), none, [11]⟩,
 ⟨some 11, .mv (.t 27), none, [27]⟩])))
def c146 : RC :=
 .seq (.reg [⟨some 6, .mv (.c (.bool false)), none, []⟩])
 (.seq (.seq (.reg [⟨some 9, .mv (.t 2), none, [2]⟩,
 ⟨some 10, .len .slice (.t 9), none, [9]⟩,
 ⟨some 11, .mv (.c (.int .i64 0)), none, []⟩])
 (.block 0 (.loop c146l1)))
 (.seq (.reg [⟨some 6, .mv (.c (.bool true)), none, []⟩])
 (.ret)))
theorem c146_ctr : CtrOf 146 28 [.t 6] c146 := ctrOf Tryz.func146 (by kernel_rfl) (by kernel_rfl) rfl (by kernel_rfl) (by kernel_rfl)
def c77 : RC :=
 .seq (.reg [⟨some 1, .box (.t 0), none, [0]⟩,
 ⟨some 2, .mv (.c .nilfunc), none, []⟩])
 (.seq (.reg [⟨some 3, .fn 145 [(.t 1)], none, [1]⟩,
 ⟨some 2, .mv (.t 3), none, [3]⟩])
 (.ret))
theorem c77_ctr : CtrOf 77 4 [.t 2] c77 := ctrOf Tryz.func77 (by kernel_rfl) (by kernel_rfl) rfl (by kernel_rfl) (by kernel_rfl)
def c145 : RC :=
 .seq (.reg [⟨some 5, .mv (.t 0), none, [0]⟩,
 ⟨some 6, .mv (.t 1), none, [1]⟩,
 ⟨some 7, .bsl 2 1 [(.int .i64 0)] [(0, 1, (.c (.int .i64 1))), (1, 1, (.c (.int .i64 1)))], none, []⟩,
 ⟨some 8, .call 146 [(.t 5), (.t 6), (.t 7)], none, [5, 6, 7]⟩])
 (.cond (.t 8)
 (.draw [⟨some 9, .mv (.t 0), none, [0]⟩,
 ⟨some 10, .ld1 (.t 2), none, [2]⟩,
 ⟨some 11, .mv (.t 1), none, [1]⟩,
 ⟨some 12, .ia 1 (.t 11) (.c (.int .i64 0)), none, [11]⟩,
 ⟨some 13, .ld1 (.t 12), none, [12]⟩,
 ⟨some 14, .nilck (.t 13), none, [13]⟩,
 ⟨some 15, .fa 1 (.t 14), none, [14]⟩,
 ⟨some 16, .ld1 (.t 15), none, [15]⟩,
 ⟨some 17, .mv (.t 1), none, [1]⟩,
 ⟨some 18, .ia 1 (.t 17) (.c (.int .i64 1)), none, [17]⟩,
 ⟨some 19, .ld1 (.t 18), none, [18]⟩,
 ⟨some 20, .nilck (.t 19), none, [19]⟩,
 ⟨some 21, .fa 1 (.t 20), none, [20]⟩,
 ⟨some 22, .ld1 (.t 21), none, [21]⟩,
 ⟨some 23, .callv (.t 10) [(.t 16), (.t 22)], none, [10, 16, 22]⟩,
 ⟨some 24, .call 101 [(.t 9), (.t 23)], none, [9, 23]⟩] [(1, [14]), (4, [14]), (7, [14]), (10, [14]), (13, [14])])
 (.skip))
theorem c145_ctr : CtrOf 145 25 [] c145 := ctrOf Tryz.func145 (by kernel_rfl) (by kernel_rfl) rfl (by kernel_rfl) (by kernel_rfl)
def c78 : RC :=
 .seq (.reg [⟨some 4, .mv (.c .nilptr), none, []⟩])
 (.seq (.reg [⟨some 5, .mv (.t 0), none, [0]⟩,
 ⟨some 6, .mv (.t 1), none, [1]⟩,
 ⟨some 7, .bin (.int .add) (.t 5) (.t 6), none, [5, 6]⟩,
 ⟨some 8, .call 80 [(.t 7)], none, [7]⟩,
 ⟨some 9, .call 79 [(.t 8)], none, [8]⟩,
 ⟨some 4, .mv (.t 9), none, [9]⟩])
 (.ret))
theorem c78_ctr : CtrOf 78 10 [.t 4] c78 := ctrOf Tryz.func78 (by kernel_rfl) (by kernel_rfl) rfl (by kernel_rfl) (by kernel_rfl)
def c81 : RC :=
 .seq (.reg [⟨some 4, .mv (.c .nilptr), none, []⟩])
 (.seq (.reg [⟨some 5, .mv (.t 0), none, [0]⟩,
 ⟨some 6, .mv (.t 1), none, [1]⟩,
 ⟨some 7, .bin (.int .sub) (.t 5) (.t 6), none, [5, 6]⟩,
 ⟨some 8, .call 80 [(.t 7)], none, [7]⟩,
 ⟨some 9, .call 79 [(.t 8)], none, [8]⟩,
 ⟨some 4, .mv (.t 9), none, [9]⟩])
 (.ret))
theorem c81_ctr : CtrOf 81 10 [.t 4] c81 := ctrOf Tryz.func81 (by kernel_rfl) (by kernel_rfl) rfl (by kernel_rfl) (by kernel_rfl)
def c82 : RC :=
 .seq (.reg [⟨some 4, .mv (.c .nilptr), none, []⟩])
 (.seq (.reg [⟨some 5, .mv (.t 0), none, [0]⟩,
 ⟨some 6, .mv (.t 1), none, [1]⟩,
 ⟨some 7, .bin (.int .mul) (.t 5) (.t 6), none, [5, 6]⟩,
 ⟨some 8, .call 80 [(.t 7)], none, [7]⟩,
 ⟨some 9, .call 79 [(.t 8)], none, [8]⟩,
 ⟨some 4, .mv (.t 9), none, [9]⟩])
 (.ret))
theorem c82_ctr : CtrOf 82 10 [.t 4] c82 := ctrOf Tryz.func82 (by kernel_rfl) (by kernel_rfl) rfl (by kernel_rfl) (by kernel_rfl)
def c83 : RC :=
 .seq (.reg [⟨some 4, .mv (.c .nilptr), none, []⟩])
 (.seq (.reg [⟨some 5, .mv (.t 0), none, [0]⟩,
 ⟨some 6, .mv (.t 1), none, [1]⟩,
 ⟨some 7, .bin (.int .eql) (.t 5) (.t 6), none, [5, 6]⟩,
 ⟨some 8, .call 84 [(.t 7)], none, [7]⟩,
 ⟨some 4, .mv (.t 8), none, [8]⟩])
 (.ret))
theorem c83_ctr : CtrOf 83 9 [.t 4] c83 := ctrOf Tryz.func83 (by kernel_rfl) (by kernel_rfl) rfl (by kernel_rfl) (by kernel_rfl)
def c85 : RC :=
 .seq (.reg [⟨some 4, .mv (.c .nilptr), none, []⟩])
 (.seq (.reg [⟨some 5, .mv (.t 0), none, [0]⟩,
 ⟨some 6, .mv (.t 1), none, [1]⟩,
 ⟨some 7, .bin (.int .lss) (.t 5) (.t 6), none, [5, 6]⟩,
 ⟨some 8, .call 84 [(.t 7)], none, [7]⟩,
 ⟨some 4, .mv (.t 8), none, [8]⟩])
 (.ret))
theorem c85_ctr : CtrOf 85 9 [.t 4] c85 := ctrOf Tryz.func85 (by kernel_rfl) (by kernel_rfl) rfl (by kernel_rfl) (by kernel_rfl)
def c86 : RC :=
 .seq (.reg [⟨some 4, .mv (.c .nilptr), none, []⟩])
 (.seq (.reg [⟨some 5, .mv (.t 0), none, [0]⟩,
 ⟨some 6, .mv (.t 1), none, [1]⟩,
 ⟨some 7, .bin (.int .leq) (.t 5) (.t 6), none, [5, 6]⟩,
 ⟨some 8, .call 84 [(.t 7)], none, [7]⟩,
 ⟨some 4, .mv (.t 8), none, [8]⟩])
 (.ret))
theorem c86_ctr : CtrOf 86 9 [.t 4] c86 := ctrOf Tryz.func86 (by kernel_rfl) (by kernel_rfl) rfl (by kernel_rfl) (by kernel_rfl)
def c87 : RC :=
 .seq (.reg [⟨some 1, .box (.t 0), none, [0]⟩,
 ⟨some 2, .mv (.c .nilfunc), none, []⟩])
 (.seq (.reg [⟨some 3, .fn 147 [(.t 1)], none, [1]⟩,
 ⟨some 2, .mv (.t 3), none, [3]⟩])
 (.ret))
theorem c87_ctr : CtrOf 87 4 [.t 2] c87 := ctrOf Tryz.func87 (by kernel_rfl) (by kernel_rfl) rfl (by kernel_rfl) (by kernel_rfl)
def c147 : RC :=
 .block 0 (.seq (.reg [⟨some 24, .mv (.t 0), none, [0]⟩,
 ⟨some 25, .mv (.t 1), none, [1]⟩,
 ⟨some 26, .bsl 2 1 [(.int .i64 0)] [(0, 1, (.c (.int .i64 1))), (1, 1, (.c (.int .i64 1)))], none, []⟩,
 ⟨some 27, .call 146 [(.t 24), (.t 25), (.t 26)], none, [24, 25, 26]⟩,
 ⟨some 28, .un .not (.t 27), none, [27]⟩,
 ⟨some 23, .mv (.t 28), none, [28]⟩])
 (.cond (.t 23)
 (.skip)
 (.seq (.reg [⟨some 30, .mv (.t 1), none, [1]⟩,
 ⟨some 31, .ia 1 (.t 30) (.c (.int .i64 1)), none, [30]⟩,
 ⟨some 32, .ld1 (.t 31), none, [31]⟩,
 ⟨some 33, .nilck (.t 32), none, [32]⟩,
 ⟨some 34, .fa 1 (.t 33), none, [33]⟩,
 ⟨some 35, .ld1 (.t 34), none, [34]⟩,
 ⟨some 36, .bin (.int .eql) (.t 35) (.c (.int .i64 0)), none, [35]⟩,
 ⟨some 29, .mv (.t 36), none, [36]⟩])
 (.cond (.t 29)
 (.reg [⟨some 37, .mv (.t 0), none, [0]⟩,
 ⟨some 38, .call 102 [(.c (.int .i64 1)), (.c .nilslice)], none, []⟩,
 ⟨some 39, .call 108 [(.t 37), (.t 38)], none, [37, 38]⟩])
 (.draw [⟨some 5, .mv (.t 0), none, [0]⟩,
 ⟨some 6, .ld1 (.t 2), none, [2]⟩,
 ⟨some 7, .mv (.t 1), none, [1]⟩,
 ⟨some 8, .ia 1 (.t 7) (.c (.int .i64 0)), none, [7]⟩,
 ⟨some 9, .ld1 (.t 8), none, [8]⟩,
 ⟨some 10, .nilck (.t 9), none, [9]⟩,
 ⟨some 11, .fa 1 (.t 10), none, [10]⟩,
 ⟨some 12, .ld1 (.t 11), none, [11]⟩,
 ⟨some 13, .mv (.t 1), none, [1]⟩,
 ⟨some 14, .ia 1 (.t 13) (.c (.int .i64 1)), none, [13]⟩,
 ⟨some 15, .ld1 (.t 14), none, [14]⟩,
 ⟨some 16, .nilck (.t 15), none, [15]⟩,
 ⟨some 17, .fa 1 (.t 16), none, [16]⟩,
 ⟨some 18, .ld1 (.t 17), none, [17]⟩,
 ⟨some 19, .callv (.t 6) [(.t 12), (.t 18)], none, [6, 12, 18]⟩,
 ⟨some 20, .call 80 [(.t 19)], none, [19]⟩,
 ⟨some 21, .call 79 [(.t 20)], none, [20]⟩,
 ⟨some 22, .call 101 [(.t 5), (.t 21)], none, [5, 21]⟩] [(1, [14]), (4, [14]), (7, [14]), (10, [14]), (13, [14])])))))
theorem c147_ctr : CtrOf 147 40 [] c147 := ctrOf Tryz.func147 (by kernel_rfl) (by kernel_rfl) rfl (by kernel_rfl) (by kernel_rfl)
def c88 : RC :=
 .seq (.reg [⟨some 4, .mv (.c (.int .i64 0)), none, []⟩])
 (.seq (.reg [⟨some 5, .mv (.t 0), none, [0]⟩,
 ⟨some 6, .mv (.t 1), none, [1]⟩,
 ⟨some 7, .bin (.int .quo) (.t 5) (.t 6), none, [5, 6]⟩,
 ⟨some 4, .mv (.t 7), none, [7]⟩])
 (.ret))
theorem c88_ctr : CtrOf 88 8 [.t 4] c88 := ctrOf Tryz.func88 (by kernel_rfl) (by kernel_rfl) rfl (by kernel_rfl) (by kernel_rfl)
def c89 : RC :=
 .seq (.reg [⟨some 4, .mv (.c (.int .i64 0)), none, []⟩])
 (.seq (.reg [⟨some 5, .mv (.t 0), none, [0]⟩,
 ⟨some 6, .mv (.t 1), none, [1]⟩,
 ⟨some 7, .bin (.int .rem) (.t 5) (.t 6), none, [5, 6]⟩,
 ⟨some 4, .mv (.t 7), none, [7]⟩])
 (.ret))
theorem c89_ctr : CtrOf 89 8 [.t 4] c89 := ctrOf Tryz.func89 (by kernel_rfl) (by kernel_rfl) rfl (by kernel_rfl) (by kernel_rfl)
def c58 : RC :=
 .seq (.reg [⟨some 0, .mv (.c .nilmap), none, []⟩])
 (.seq (.reg [⟨some 1, .mkm none, none, []⟩,
 ⟨some 2, .call 77 [(.c (.func 78 []))], none, []⟩,
 ⟨none, .upd .str (.t 1) (.c (.str [97, 100, 100])) (.t 2), none, [1, 2]⟩,
 ⟨some 3, .call 77 [(.c (.func 81 []))], none, []⟩,
 ⟨none, .upd .str (.t 1) (.c (.str [115, 117, 98])) (.t 3), none, [1, 3]⟩,
 ⟨some 4, .call 77 [(.c (.func 82 []))], none, []⟩,
 ⟨none, .upd .str (.t 1) (.c (.str [109, 117, 108])) (.t 4), none, [1, 4]⟩,
 ⟨some 5, .call 77 [(.c (.func 83 []))], none, []⟩,
 ⟨none, .upd .str (.t 1) (.c (.str [101, 113])) (.t 5), none, [1, 5]⟩,
 ⟨some 6, .call 77 [(.c (.func 85 []))], none, []⟩,
 ⟨none, .upd .str (.t 1) (.c (.str [108, 116])) (.t 6), none, [1, 6]⟩,
 ⟨some 7, .call 77 [(.c (.func 86 []))], none, []⟩,
 ⟨none, .upd .str (.t 1) (.c (.str [108, 101])) (.t 7), none, [1, 7]⟩,
 ⟨some 8, .call 87 [(.c (.func 88 []))], none, []⟩,
 ⟨none, .upd .str (.t 1) (.c (.str [100, 105, 118])) (.t 8), none, [1, 8]⟩,
 ⟨some 9, .call 87 [(.c (.func 89 []))], none, []⟩,
 ⟨none, .upd .str (.t 1) (.c (.str [109, 111, 100])) (.t 9), none, [1, 9]⟩,
 ⟨none, .upd .str (.t 1) (.c (.str [110, 101, 103])) (.c (.func 90 [])), none, [1]⟩,
 ⟨none, .upd .str (.t 1) (.c (.str [103, 101, 116, 99])) (.c (.func 91 [])), none, [1]⟩,
 ⟨none, .upd .str (.t 1) (.c (.str [112, 117, 116, 99])) (.c (.func 92 [])), none, [1]⟩,
 ⟨none, .upd .str (.t 1) (.c (.str [112, 117, 116, 115])) (.c (.func 93 [])), none, [1]⟩,
 ⟨none, .upd .str (.t 1) (.c (.str [115, 105, 122, 101])) (.c (.func 94 [])), none, [1]⟩,
 ⟨none, .upd .str (.t 1) (.c (.str [99, 104, 114])) (.c (.func 95 [])), none, [1]⟩,
 ⟨none, .upd .str (.t 1) (.c (.str [98, 121, 116, 101])) (.c (.func 96 [])), none, [1]⟩,
 ⟨none, .upd .str (.t 1) (.c (.str [99, 117, 116])) (.c (.func 97 [])), none, [1]⟩,
 ⟨none, .upd .str (.t 1) (.c (.str [106, 111, 105, 110])) (.c (.func 98 [])), none, [1]⟩,
 ⟨none, .upd .str (.t 1) (.c (.str [115, 101, 116])) (.c (.func 99 [])), none, [1]⟩,
 ⟨some 10, .mv (.t 1), none, [1]⟩,
 ⟨some 0, .mv (.t 10), none, [10]⟩])
 (.ret))
theorem c58_ctr : CtrOf 58 11 [.t 0] c58 := ctrOf Tryz.func58 (by kernel_rfl) (by kernel_rfl) rfl (by kernel_rfl) (by kernel_rfl)
def c90 : RC :=
 .seq (.reg [⟨some 4, .mv (.t 0), none, [0]⟩,
 ⟨some 5, .mv (.t 1), none, [1]⟩,
 ⟨some 6, .bsl 1 1 [(.int .i64 0)] [(0, 1, (.c (.int .i64 1)))], none, []⟩,
 ⟨some 7, .call 146 [(.t 4), (.t 5), (.t 6)], none, [4, 5, 6]⟩])
 (.cond (.t 7)
 (.reg [⟨some 8, .mv (.t 0), none, [0]⟩,
 ⟨some 9, .mv (.t 1), none, [1]⟩,
 ⟨some 10, .ia 1 (.t 9) (.c (.int .i64 0)), none, [9]⟩,
 ⟨some 11, .ld1 (.t 10), none, [10]⟩,
 ⟨some 12, .nilck (.t 11), none, [11]⟩,
 ⟨some 13, .fa 1 (.t 12), none, [12]⟩,
 ⟨some 14, .ld1 (.t 13), none, [13]⟩,
 ⟨some 15, .un .neg (.t 14), none, [14]⟩,
 ⟨some 16, .call 80 [(.t 15)], none, [15]⟩,
 ⟨some 17, .call 79 [(.t 16)], none, [16]⟩,
 ⟨some 18, .call 101 [(.t 8), (.t 17)], none, [8, 17]⟩])
 (.skip))
theorem c90_ctr : CtrOf 90 19 [] c90 := ctrOf Tryz.func90 (by kernel_rfl) (by kernel_rfl) rfl (by kernel_rfl) (by kernel_rfl)
def c91 : RC :=
 .seq (.seq (.draw [⟨some 4, .mv (.t 0), none, [0]⟩,
 ⟨some 5, .nilck (.t 4), none, [4]⟩,
 ⟨some 6, .fa 1 (.t 5), none, [5]⟩,
 ⟨some 7, .fa 2 (.t 6), none, [6]⟩,
 ⟨some 8, .ld1 (.t 7), none, [7]⟩,
 ⟨some 9, .mv (.t 0), none, [0]⟩,
 ⟨some 10, .nilck (.t 9), none, [9]⟩,
 ⟨some 11, .fa 0 (.t 10), none, [10]⟩,
 ⟨some 12, .ld1 (.t 11), none, [11]⟩,
 ⟨some 13, .len .slice (.t 12), none, [12]⟩,
 ⟨some 14, .bin (.int .geq) (.t 8) (.t 13), none, [8, 13]⟩] [])
 (.cond (.t 14)
 (.seq (.reg [⟨some 15, .mv (.t 0), none, [0]⟩,
 ⟨some 16, .call 79 [(.c (.int .i64 (-1)))], none, []⟩,
 ⟨some 17, .call 101 [(.t 15), (.t 16)], none, [15, 16]⟩])
 (.ret))
 (.skip)))
 (.seq (.reg [⟨some 18, .mv (.t 0), none, [0]⟩,
 ⟨some 19, .nilck (.t 18), none, [18]⟩,
 ⟨some 20, .fa 1 (.t 19), none, [19]⟩,
 ⟨some 21, .fa 2 (.t 20), none, [20]⟩,
 ⟨some 22, .ld1 (.t 21), none, [21]⟩,
 ⟨some 23, .bin (.int .add) (.t 22) (.c (.int .i64 1)), none, [22]⟩,
 ⟨some 24, .nilck (.t 18), none, [18]⟩,
 ⟨some 25, .fa 1 (.t 24), none, [24]⟩,
 ⟨some 26, .fa 2 (.t 25), none, [25]⟩,
 ⟨none, .st 1 (.t 26) (.t 23), none, [26, 23]⟩])
 (.draw [⟨some 27, .mv (.t 0), none, [0]⟩,
 ⟨some 28, .mv (.t 0), none, [0]⟩,
 ⟨some 29, .nilck (.t 28), none, [28]⟩,
 ⟨some 30, .fa 0 (.t 29), none, [29]⟩,
 ⟨some 31, .ld1 (.t 30), none, [30]⟩,
 ⟨some 32, .mv (.t 0), none, [0]⟩,
 ⟨some 33, .nilck (.t 32), none, [32]⟩,
 ⟨some 34, .fa 1 (.t 33), none, [33]⟩,
 ⟨some 35, .fa 2 (.t 34), none, [34]⟩,
 ⟨some 36, .ld1 (.t 35), none, [35]⟩,
 ⟨some 37, .bin (.int .sub) (.t 36) (.c (.int .i64 1)), none, [36]⟩,
 ⟨some 38, .ia 1 (.t 31) (.t 37), none, [31, 37]⟩,
 ⟨some 39, .ld1 (.t 38), none, [38]⟩,
 ⟨some 40, .cv (.int .i64) (.t 39), none, [39]⟩,
 ⟨some 41, .call 79 [(.t 40)], none, [40]⟩,
 ⟨some 42, .call 101 [(.t 27), (.t 41)], none, [27, 41]⟩] [(4, [14]), (9, [14]), (12, [14]), (13, [14])]))
theorem c91_ctr : CtrOf 91 43 [] c91 := ctrOf Tryz.func91 (by kernel_rfl) (by kernel_rfl) rfl (by kernel_rfl) (by kernel_rfl)
def c92 : RC :=
 .seq (.reg [⟨some 4, .mv (.t 0), none, [0]⟩,
 ⟨some 5, .mv (.t 1), none, [1]⟩,
 ⟨some 6, .bsl 1 1 [(.int .i64 0)] [(0, 1, (.c (.int .i64 1)))], none, []⟩,
 ⟨some 7, .call 146 [(.t 4), (.t 5), (.t 6)], none, [4, 5, 6]⟩])
 (.cond (.t 7)
 (.seq (.draw [⟨some 8, .mv (.t 0), none, [0]⟩,
 ⟨some 9, .mv (.t 0), none, [0]⟩,
 ⟨some 10, .nilck (.t 9), none, [9]⟩,
 ⟨some 11, .fa 1 (.t 10), none, [10]⟩,
 ⟨some 12, .fa 4 (.t 11), none, [11]⟩,
 ⟨some 13, .ld1 (.t 12), none, [12]⟩,
 ⟨some 14, .mv (.t 1), none, [1]⟩,
 ⟨some 15, .ia 1 (.t 14) (.c (.int .i64 0)), none, [14]⟩,
 ⟨some 16, .ld1 (.t 15), none, [15]⟩,
 ⟨some 17, .nilck (.t 16), none, [16]⟩,
 ⟨some 18, .fa 1 (.t 17), none, [17]⟩,
 ⟨some 19, .ld1 (.t 18), none, [18]⟩,
 ⟨some 20, .cv (.int .u8) (.t 19), none, [19]⟩,
 ⟨some 21, .bsl 1 1 [(.int .u8 0)] [(0, 1, (.t 20))], none, [20]⟩,
 ⟨some 22, .app 1 (.t 13) (.t 21), none, [13, 21]⟩,
 ⟨some 23, .nilck (.t 8), none, [8]⟩,
 ⟨some 24, .fa 1 (.t 23), none, [23]⟩,
 ⟨some 25, .fa 4 (.t 24), none, [24]⟩,
 ⟨none, .st 1 (.t 25) (.t 22), none, [25, 22]⟩] [(5, [14]), (8, [14]), (11, [14]), (12, [14])])
 (.reg [⟨some 26, .mv (.t 0), none, [0]⟩,
 ⟨some 27, .call 102 [(.c (.int .i64 0)), (.c .nilslice)], none, []⟩,
 ⟨some 28, .call 101 [(.t 26), (.t 27)], none, [26, 27]⟩]))
 (.skip))
theorem c92_ctr : CtrOf 92 29 [] c92 := ctrOf Tryz.func92 (by kernel_rfl) (by kernel_rfl) rfl (by kernel_rfl) (by kernel_rfl)
def c93 : RC :=
 .seq (.reg [⟨some 4, .mv (.t 0), none, [0]⟩,
 ⟨some 5, .mv (.t 1), none, [1]⟩,
 ⟨some 6, .bsl 1 1 [(.int .i64 0)] [(0, 1, (.c (.int .i64 2)))], none, []⟩,
 ⟨some 7, .call 146 [(.t 4), (.t 5), (.t 6)], none, [4, 5, 6]⟩])
 (.cond (.t 7)
 (.seq (.draw [⟨some 8, .mv (.t 0), none, [0]⟩,
 ⟨some 9, .mv (.t 0), none, [0]⟩,
 ⟨some 10, .nilck (.t 9), none, [9]⟩,
 ⟨some 11, .fa 1 (.t 10), none, [10]⟩,
 ⟨some 12, .fa 4 (.t 11), none, [11]⟩,
 ⟨some 13, .ld1 (.t 12), none, [12]⟩,
 ⟨some 14, .mv (.t 1), none, [1]⟩,
 ⟨some 15, .ia 1 (.t 14) (.c (.int .i64 0)), none, [14]⟩,
 ⟨some 16, .ld1 (.t 15), none, [15]⟩,
 ⟨some 17, .nilck (.t 16), none, [16]⟩,
 ⟨some 18, .fa 2 (.t 17), none, [17]⟩,
 ⟨some 19, .ld1 (.t 18), none, [18]⟩,
 ⟨some 20, .app 1 (.t 13) (.t 19), none, [13, 19]⟩,
 ⟨some 21, .nilck (.t 8), none, [8]⟩,
 ⟨some 22, .fa 1 (.t 21), none, [21]⟩,
 ⟨some 23, .fa 4 (.t 22), none, [22]⟩,
 ⟨none, .st 1 (.t 23) (.t 20), none, [23, 20]⟩] [(5, [12]), (8, [12]), (11, [12])])
 (.reg [⟨some 24, .mv (.t 0), none, [0]⟩,
 ⟨some 25, .call 102 [(.c (.int .i64 0)), (.c .nilslice)], none, []⟩,
 ⟨some 26, .call 101 [(.t 24), (.t 25)], none, [24, 25]⟩]))
 (.skip))
theorem c93_ctr : CtrOf 93 27 [] c93 := ctrOf Tryz.func93 (by kernel_rfl) (by kernel_rfl) rfl (by kernel_rfl) (by kernel_rfl)
def c94 : RC :=
 .seq (.reg [⟨some 4, .mv (.t 0), none, [0]⟩,
 ⟨some 5, .mv (.t 1), none, [1]⟩,
 ⟨some 6, .bsl 1 1 [(.int .i64 0)] [(0, 1, (.c (.int .i64 2)))], none, []⟩,
 ⟨some 7, .call 146 [(.t 4), (.t 5), (.t 6)], none, [4, 5, 6]⟩])
 (.cond (.t 7)
 (.reg [⟨some 8, .mv (.t 0), none, [0]⟩,
 ⟨some 9, .mv (.t 1), none, [1]⟩,
 ⟨some 10, .ia 1 (.t 9) (.c (.int .i64 0)), none, [9]⟩,
 ⟨some 11, .ld1 (.t 10), none, [10]⟩,
 ⟨some 12, .nilck (.t 11), none, [11]⟩,
 ⟨some 13, .fa 2 (.t 12), none, [12]⟩,
 ⟨some 14, .ld1 (.t 13), none, [13]⟩,
 ⟨some 15, .len .str (.t 14), none, [14]⟩,
 ⟨some 16, .call 79 [(.t 15)], none, [15]⟩,
 ⟨some 17, .call 101 [(.t 8), (.t 16)], none, [8, 16]⟩])
 (.skip))
theorem c94_ctr : CtrOf 94 18 [] c94 := ctrOf Tryz.func94 (by kernel_rfl) (by kernel_rfl) rfl (by kernel_rfl) (by kernel_rfl)
def c95 : RC :=
 .seq (.reg [⟨some 4, .mv (.t 0), none, [0]⟩,
 ⟨some 5, .mv (.t 1), none, [1]⟩,
 ⟨some 6, .bsl 1 1 [(.int .i64 0)] [(0, 1, (.c (.int .i64 1)))], none, []⟩,
 ⟨some 7, .call 146 [(.t 4), (.t 5), (.t 6)], none, [4, 5, 6]⟩])
 (.cond (.t 7)
 (.reg [⟨some 8, .mv (.t 0), none, [0]⟩,
 ⟨some 9, .mv (.t 1), none, [1]⟩,
 ⟨some 10, .ia 1 (.t 9) (.c (.int .i64 0)), none, [9]⟩,
 ⟨some 11, .ld1 (.t 10), none, [10]⟩,
 ⟨some 12, .nilck (.t 11), none, [11]⟩,
 ⟨some 13, .fa 1 (.t 12), none, [12]⟩,
 ⟨some 14, .ld1 (.t 13), none, [13]⟩,
 ⟨some 15, .cv (.int .u8) (.t 14), none, [14]⟩,
 ⟨some 16, .bsl 1 1 [(.int .u8 0)] [(0, 1, (.t 15))], none, [15]⟩,
 ⟨some 17, .cv .str (.t 16), none, [16]⟩,
 ⟨some 18, .call 148 [(.t 17)], none, [17]⟩,
 ⟨some 19, .call 101 [(.t 8), (.t 18)], none, [8, 18]⟩])
 (.skip))
theorem c95_ctr : CtrOf 95 20 [] c95 := ctrOf Tryz.func95 (by kernel_rfl) (by kernel_rfl) rfl (by kernel_rfl) (by kernel_rfl)
def c96 : RC :=
 .block 0 (.seq (.reg [⟨some 22, .mv (.t 0), none, [0]⟩,
 ⟨some 23, .mv (.t 1), none, [1]⟩,
 ⟨some 24, .bsl 2 1 [(.int .i64 0)] [(0, 1, (.c (.int .i64 2))), (1, 1, (.c (.int .i64 1)))], none, []⟩,
 ⟨some 25, .call 146 [(.t 22), (.t 23), (.t 24)], none, [22, 23, 24]⟩,
 ⟨some 26, .un .not (.t 25), none, [25]⟩,
 ⟨some 21, .mv (.t 26), none, [26]⟩])
 (.cond (.t 21)
 (.skip)
 (.seq (.draw [⟨some 28, .mv (.t 1), none, [1]⟩,
 ⟨some 29, .ia 1 (.t 28) (.c (.int .i64 1)), none, [28]⟩,
 ⟨some 30, .ld1 (.t 29), none, [29]⟩,
 ⟨some 31, .nilck (.t 30), none, [30]⟩,
 ⟨some 32, .fa 1 (.t 31), none, [31]⟩,
 ⟨some 33, .ld1 (.t 32), none, [32]⟩,
 ⟨some 34, .bin (.int .lss) (.t 33) (.c (.int .i64 0)), none, [33]⟩,
 ⟨some 35, .mv (.t 34), none, [34]⟩,
 ⟨some 36, .mv (.t 1), (some (35, false)), [1, 35]⟩,
 ⟨some 37, .ia 1 (.t 36) (.c (.int .i64 1)), (some (35, false)), [36, 35]⟩,
 ⟨some 38, .ld1 (.t 37), (some (35, false)), [37, 35]⟩,
 ⟨some 39, .nilck (.t 38), (some (35, false)), [38, 35]⟩,
 ⟨some 40, .fa 1 (.t 39), (some (35, false)), [39, 35]⟩,
 ⟨some 41, .ld1 (.t 40), (some (35, false)), [40, 35]⟩,
 ⟨some 42, .mv (.t 1), (some (35, false)), [1, 35]⟩,
 ⟨some 43, .ia 1 (.t 42) (.c (.int .i64 0)), (some (35, false)), [42, 35]⟩,
 ⟨some 44, .ld1 (.t 43), (some (35, false)), [43, 35]⟩,
 ⟨some 45, .nilck (.t 44), (some (35, false)), [44, 35]⟩,
 ⟨some 46, .fa 2 (.t 45), (some (35, false)), [45, 35]⟩,
 ⟨some 47, .ld1 (.t 46), (some (35, false)), [46, 35]⟩,
 ⟨some 48, .len .str (.t 47), (some (35, false)), [47, 35]⟩,
 ⟨some 49, .bin (.int .geq) (.t 41) (.t 48), (some (35, false)), [41, 48, 35]⟩,
 ⟨some 50, .pick (.t 35) (.c (.bool true)) (.t 49), none, [35, 49]⟩,
 ⟨some 27, .mv (.t 50), none, [50]⟩] [])
 (.cond (.t 27)
 (.reg [⟨some 51, .mv (.t 0), none, [0]⟩,
 ⟨some 52, .call 102 [(.c (.int .i64 2)), (.c .nilslice)], none, []⟩,
 ⟨some 53, .call 108 [(.t 51), (.t 52)], none, [51, 52]⟩])
 (.draw [⟨some 4, .mv (.t 0), none, [0]⟩,
 ⟨some 5, .mv (.t 1), none, [1]⟩,
 ⟨some 6, .ia 1 (.t 5) (.c (.int .i64 0)), none, [5]⟩,
 ⟨some 7, .ld1 (.t 6), none, [6]⟩,
 ⟨some 8, .nilck (.t 7), none, [7]⟩,
 ⟨some 9, .fa 2 (.t 8), none, [8]⟩,
 ⟨some 10, .ld1 (.t 9), none, [9]⟩,
 ⟨some 11, .mv (.t 1), none, [1]⟩,
 ⟨some 12, .ia 1 (.t 11) (.c (.int .i64 1)), none, [11]⟩,
 ⟨some 13, .ld1 (.t 12), none, [12]⟩,
 ⟨some 14, .nilck (.t 13), none, [13]⟩,
 ⟨some 15, .fa 1 (.t 14), none, [14]⟩,
 ⟨some 16, .ld1 (.t 15), none, [15]⟩,
 ⟨some 17, .ixs (.t 10) (.t 16), none, [10, 16]⟩,
 ⟨some 18, .cv (.int .i64) (.t 17), none, [17]⟩,
 ⟨some 19, .call 79 [(.t 18)], none, [18]⟩,
 ⟨some 20, .call 101 [(.t 4), (.t 19)], none, [4, 19]⟩] [(3, [15]), (6, [15]), (9, [15]), (12, [15]), (14, [15])])))))
theorem c96_ctr : CtrOf 96 54 [] c96 := ctrOf Tryz.func96 (by kernel_rfl) (by kernel_rfl) rfl (by kernel_rfl) (by kernel_rfl)
def c97 : RC :=
 .seq (.seq (.reg [⟨some 7, .mv (.t 0), none, [0]⟩,
 ⟨some 8, .mv (.t 1), none, [1]⟩,
 ⟨some 9, .bsl 3 1 [(.int .i64 0)] [(0, 1, (.c (.int .i64 2))), (1, 1, (.c (.int .i64 1))), (2, 1, (.c (.int .i64 1)))], none, []⟩,
 ⟨some 10, .call 146 [(.t 7), (.t 8), (.t 9)], none, [7, 8, 9]⟩,
 ⟨some 11, .un .not (.t 10), none, [10]⟩])
 (.cond (.t 11)
 (.ret)
 (.skip)))
 (.seq (.draw [⟨some 12, .mv (.t 1), none, [1]⟩,
 ⟨some 13, .ia 1 (.t 12) (.c (.int .i64 0)), none, [12]⟩,
 ⟨some 14, .ld1 (.t 13), none, [13]⟩,
 ⟨some 15, .nilck (.t 14), none, [14]⟩,
 ⟨some 16, .fa 2 (.t 15), none, [15]⟩,
 ⟨some 17, .ld1 (.t 16), none, [16]⟩,
 ⟨some 18, .mv (.t 1), none, [1]⟩,
 ⟨some 19, .ia 1 (.t 18) (.c (.int .i64 1)), none, [18]⟩,
 ⟨some 20, .ld1 (.t 19), none, [19]⟩,
 ⟨some 21, .nilck (.t 20), none, [20]⟩,
 ⟨some 22, .fa 1 (.t 21), none, [21]⟩,
 ⟨some 23, .ld1 (.t 22), none, [22]⟩,
 ⟨some 24, .mv (.t 1), none, [1]⟩,
 ⟨some 25, .ia 1 (.t 24) (.c (.int .i64 2)), none, [24]⟩,
 ⟨some 26, .ld1 (.t 25), none, [25]⟩,
 ⟨some 27, .nilck (.t 26), none, [26]⟩,
 ⟨some 28, .fa 1 (.t 27), none, [27]⟩,
 ⟨some 29, .ld1 (.t 28), none, [28]⟩,
 ⟨some 4, .mv (.t 17), none, [17]⟩,
 ⟨some 5, .mv (.t 23), none, [23]⟩,
 ⟨some 6, .mv (.t 29), none, [29]⟩] [])
 (.seq (.seq (.reg [⟨some 30, .mv (.t 5), none, [5]⟩,
 ⟨some 31, .bin (.int .lss) (.t 30) (.c (.int .i64 0)), none, [30]⟩,
 ⟨some 32, .mv (.t 31), none, [31]⟩,
 ⟨some 33, .mv (.t 6), (some (32, false)), [6, 32]⟩,
 ⟨some 34, .bin (.int .lss) (.t 33) (.c (.int .i64 0)), (some (32, false)), [33, 32]⟩,
 ⟨some 35, .pick (.t 32) (.c (.bool true)) (.t 34), none, [32, 34]⟩,
 ⟨some 36, .mv (.t 35), none, [35]⟩,
 ⟨some 37, .mv (.t 5), (some (36, false)), [5, 36]⟩,
 ⟨some 38, .mv (.t 4), (some (36, false)), [4, 36]⟩,
 ⟨some 39, .len .str (.t 38), (some (36, false)), [38, 36]⟩,
 ⟨some 40, .bin (.int .gtr) (.t 37) (.t 39), (some (36, false)), [37, 39, 36]⟩,
 ⟨some 41, .pick (.t 36) (.c (.bool true)) (.t 40), none, [36, 40]⟩,
 ⟨some 42, .mv (.t 41), none, [41]⟩,
 ⟨some 43, .mv (.t 6), (some (42, false)), [6, 42]⟩,
 ⟨some 44, .mv (.t 4), (some (42, false)), [4, 42]⟩,
 ⟨some 45, .len .str (.t 44), (some (42, false)), [44, 42]⟩,
 ⟨some 46, .mv (.t 5), (some (42, false)), [5, 42]⟩,
 ⟨some 47, .bin (.int .sub) (.t 45) (.t 46), (some (42, false)), [45, 46, 42]⟩,
 ⟨some 48, .bin (.int .gtr) (.t 43) (.t 47), (some (42, false)), [43, 47, 42]⟩,
 ⟨some 49, .pick (.t 42) (.c (.bool true)) (.t 48), none, [42, 48]⟩])
 (.cond (.t 49)
 (.seq (.reg [⟨some 50, .mv (.t 0), none, [0]⟩,
 ⟨some 51, .call 102 [(.c (.int .i64 2)), (.c .nilslice)], none, []⟩,
 ⟨some 52, .call 108 [(.t 50), (.t 51)], none, [50, 51]⟩])
 (.ret))
 (.skip)))
 (.reg [⟨some 53, .mv (.t 0), none, [0]⟩,
 ⟨some 54, .mv (.t 4), none, [4]⟩,
 ⟨some 55, .mv (.t 5), none, [5]⟩,
 ⟨some 56, .mv (.t 5), none, [5]⟩,
 ⟨some 57, .mv (.t 6), none, [6]⟩,
 ⟨some 58, .bin (.int .add) (.t 56) (.t 57), none, [56, 57]⟩,
 ⟨some 59, .slstr (.t 54) (some (.t 55)) (some (.t 58)) none, none, [54, 55, 58]⟩,
 ⟨some 60, .call 148 [(.t 59)], none, [59]⟩,
 ⟨some 61, .call 101 [(.t 53), (.t 60)], none, [53, 60]⟩])))
theorem c97_ctr : CtrOf 97 62 [] c97 := ctrOf Tryz.func97 (by kernel_rfl) (by kernel_rfl) rfl (by kernel_rfl) (by kernel_rfl)
def c98 : RC :=
 .block 0 (.seq (.reg [⟨some 21, .mv (.t 0), none, [0]⟩,
 ⟨some 22, .mv (.t 1), none, [1]⟩,
 ⟨some 23, .bsl 2 1 [(.int .i64 0)] [(0, 1, (.c (.int .i64 2))), (1, 1, (.c (.int .i64 2)))], none, []⟩,
 ⟨some 24, .call 146 [(.t 21), (.t 22), (.t 23)], none, [21, 22, 23]⟩,
 ⟨some 25, .un .not (.t 24), none, [24]⟩,
 ⟨some 20, .mv (.t 25), none, [25]⟩])
 (.cond (.t 20)
 (.skip)
 (.seq (.draw [⟨some 27, .mv (.t 1), none, [1]⟩,
 ⟨some 28, .ia 1 (.t 27) (.c (.int .i64 0)), none, [27]⟩,
 ⟨some 29, .ld1 (.t 28), none, [28]⟩,
 ⟨some 30, .nilck (.t 29), none, [29]⟩,
 ⟨some 31, .fa 2 (.t 30), none, [30]⟩,
 ⟨some 32, .ld1 (.t 31), none, [31]⟩,
 ⟨some 33, .len .str (.t 32), none, [32]⟩,
 ⟨some 34, .mv (.t 1), none, [1]⟩,
 ⟨some 35, .ia 1 (.t 34) (.c (.int .i64 1)), none, [34]⟩,
 ⟨some 36, .ld1 (.t 35), none, [35]⟩,
 ⟨some 37, .nilck (.t 36), none, [36]⟩,
 ⟨some 38, .fa 2 (.t 37), none, [37]⟩,
 ⟨some 39, .ld1 (.t 38), none, [38]⟩,
 ⟨some 40, .len .str (.t 39), none, [39]⟩,
 ⟨some 41, .bin (.int .add) (.t 33) (.t 40), none, [33, 40]⟩,
 ⟨some 42, .bin (.int .gtr) (.t 41) (.c (.int .i64 4096)), none, [41]⟩,
 ⟨some 26, .mv (.t 42), none, [42]⟩] [])
 (.cond (.t 26)
 (.reg [⟨some 43, .mv (.t 0), none, [0]⟩,
 ⟨some 44, .call 102 [(.c (.int .i64 2)), (.c .nilslice)], none, []⟩,
 ⟨some 45, .call 108 [(.t 43), (.t 44)], none, [43, 44]⟩])
 (.draw [⟨some 4, .mv (.t 0), none, [0]⟩,
 ⟨some 5, .mv (.t 1), none, [1]⟩,
 ⟨some 6, .ia 1 (.t 5) (.c (.int .i64 0)), none, [5]⟩,
 ⟨some 7, .ld1 (.t 6), none, [6]⟩,
 ⟨some 8, .nilck (.t 7), none, [7]⟩,
 ⟨some 9, .fa 2 (.t 8), none, [8]⟩,
 ⟨some 10, .ld1 (.t 9), none, [9]⟩,
 ⟨some 11, .mv (.t 1), none, [1]⟩,
 ⟨some 12, .ia 1 (.t 11) (.c (.int .i64 1)), none, [11]⟩,
 ⟨some 13, .ld1 (.t 12), none, [12]⟩,
 ⟨some 14, .nilck (.t 13), none, [13]⟩,
 ⟨some 15, .fa 2 (.t 14), none, [14]⟩,
 ⟨some 16, .ld1 (.t 15), none, [15]⟩,
 ⟨some 17, .bin (.str .add) (.t 10) (.t 16), none, [10, 16]⟩,
 ⟨some 18, .call 148 [(.t 17)], none, [17]⟩,
 ⟨some 19, .call 101 [(.t 4), (.t 18)], none, [4, 18]⟩] [(3, [14]), (6, [14]), (9, [14]), (12, [14])])))))
theorem c98_ctr : CtrOf 98 46 [] c98 := ctrOf Tryz.func98 (by kernel_rfl) (by kernel_rfl) rfl (by kernel_rfl) (by kernel_rfl)
def c99 : RC :=
 .seq (.seq (.reg [⟨some 4, .mv (.t 1), none, [1]⟩,
 ⟨some 5, .ia 1 (.t 4) (.c (.int .i64 0)), none, [4]⟩,
 ⟨some 6, .ld1 (.t 5), none, [5]⟩,
 ⟨some 7, .nilck (.t 6), none, [6]⟩,
 ⟨some 8, .fa 0 (.t 7), none, [7]⟩,
 ⟨some 9, .ld1 (.t 8), none, [8]⟩,
 ⟨some 10, .bin (.int .neq) (.t 9) (.c (.int .i64 4)), none, [9]⟩,
 ⟨some 11, .mv (.t 10), none, [10]⟩,
 ⟨some 12, .mv (.t 1), (some (11, false)), [1, 11]⟩,
 ⟨some 13, .ia 1 (.t 12) (.c (.int .i64 0)), (some (11, false)), [12, 11]⟩,
 ⟨some 14, .ld1 (.t 13), (some (11, false)), [13, 11]⟩,
 ⟨some 15, .nilck (.t 14), (some (11, false)), [14, 11]⟩,
 ⟨some 16, .fa 1 (.t 15), (some (11, false)), [15, 11]⟩,
 ⟨some 17, .ld1 (.t 16), (some (11, false)), [16, 11]⟩,
 ⟨some 18, .bin (.int .neq) (.t 17) (.c (.int .i64 0)), (some (11, false)), [17, 11]⟩,
 ⟨some 19, .pick (.t 11) (.c (.bool true)) (.t 18), none, [11, 18]⟩,
 ⟨some 20, .mv (.t 19), none, [19]⟩,
 ⟨some 21, .mv (.t 1), (some (20, false)), [1, 20]⟩,
 ⟨some 22, .ia 1 (.t 21) (.c (.int .i64 0)), (some (20, false)), [21, 20]⟩,
 ⟨some 23, .ld1 (.t 22), (some (20, false)), [22, 20]⟩,
 ⟨some 24, .nilck (.t 23), (some (20, false)), [23, 20]⟩,
 ⟨some 25, .fa 3 (.t 24), (some (20, false)), [24, 20]⟩,
 ⟨some 26, .ld1 (.t 25), (some (20, false)), [25, 20]⟩,
 ⟨some 27, .len .slice (.t 26), (some (20, false)), [26, 20]⟩,
 ⟨some 28, .bin (.int .neq) (.t 27) (.c (.int .i64 1)), (some (20, false)), [27, 20]⟩,
 ⟨some 29, .pick (.t 20) (.c (.bool true)) (.t 28), none, [20, 28]⟩])
 (.cond (.t 29)
 (.seq (.reg [⟨some 30, .mv (.t 0), none, [0]⟩,
 ⟨some 31, .call 103 [(.t 30), (.c (.int .i64 6))], none, [30]⟩])
 (.ret))
 (.skip)))
 (.seq (.draw [⟨some 32, .mv (.t 1), none, [1]⟩,
 ⟨some 33, .ia 1 (.t 32) (.c (.int .i64 0)), none, [32]⟩,
 ⟨some 34, .ld1 (.t 33), none, [33]⟩,
 ⟨some 35, .nilck (.t 34), none, [34]⟩,
 ⟨some 36, .fa 3 (.t 35), none, [35]⟩,
 ⟨some 37, .ld1 (.t 36), none, [36]⟩,
 ⟨some 38, .mv (.t 1), none, [1]⟩,
 ⟨some 39, .ia 1 (.t 38) (.c (.int .i64 1)), none, [38]⟩,
 ⟨some 40, .ld1 (.t 39), none, [39]⟩,
 ⟨some 41, .ia 1 (.t 37) (.c (.int .i64 0)), none, [37]⟩,
 ⟨none, .st 1 (.t 41) (.t 40), none, [41, 40]⟩] [(2, [10]), (5, [10]), (8, [10])])
 (.reg [⟨some 42, .mv (.t 0), none, [0]⟩,
 ⟨some 43, .call 102 [(.c (.int .i64 0)), (.c .nilslice)], none, []⟩,
 ⟨some 44, .call 101 [(.t 42), (.t 43)], none, [42, 43]⟩]))
theorem c99_ctr : CtrOf 99 45 [] c99 := ctrOf Tryz.func99 (by kernel_rfl) (by kernel_rfl) rfl (by kernel_rfl) (by kernel_rfl)
def c107l1 : RC :=
 .seq (.reg [⟨some 26, .bin (.int .lss) (.t 25) (.t 24), none, [25, 24]⟩])
 (.seq (.cond (.t 26)
 (.skip)
 (.exit 0))
 (.seq (.block 1 (.seq (.reg [⟨some 27, .mv (.t 25), none, [25]⟩,
 ⟨some 28, .ia 1 (.t 23) (.t 25), none, [23, 25]⟩,
 ⟨some 29, .ld1 (.t 28), none, [28]⟩,
 ⟨some 7, .mv (.t 27), none, [27]⟩,
 ⟨some 8, .mv (.t 29), none, [29]⟩])
 (.seq (.reg [⟨some 30, .mv (.t 8), none, [8]⟩,
 ⟨some 31, .mv (.t 2), none, [2]⟩,
 ⟨some 32, .nilck (.t 31), none, [31]⟩,
 ⟨some 33, .fa 1 (.t 32), none, [32]⟩,
 ⟨some 34, .ld1 (.t 33), none, [33]⟩,
 ⟨some 35, .bin (.int .eql) (.t 30) (.t 34), none, [30, 34]⟩])
 (.cond (.t 35)
 (.reg [⟨some 36, .mv (.t 7), none, [7]⟩,
 ⟨some 6, .mv (.t 36), none, [36]⟩])
 (.skip)))))
 (.reg [⟨some 37, .bin (.int .add) (.t 25) (.c (.int .i64 1)), none, [25]⟩,
 ⟨some 25, .mv (.t 37), none, [37]⟩])))
def c107 : RC :=
 .seq (.reg [⟨some 9, .mv (.t 0), none, [0]⟩,
 ⟨some 10, .nilck (.t 9), none, [9]⟩,
 ⟨some 11, .fa 7 (.t 10), none, [10]⟩,
 ⟨some 12, .ld1 (.t 11), none, [11]⟩,
 ⟨some 13, .nilck (.t 12), none, [12]⟩,
 ⟨some 14, .fa 5 (.t 13), none, [13]⟩,
 ⟨some 15, .ld1 (.t 14), none, [14]⟩,
 ⟨some 16, .len .slice (.t 15), none, [15]⟩,
 ⟨some 6, .mv (.t 16), none, [16]⟩])
 (.seq (.seq (.reg [⟨some 17, .mv (.t 0), none, [0]⟩,
 ⟨some 18, .nilck (.t 17), none, [17]⟩,
 ⟨some 19, .fa 7 (.t 18), none, [18]⟩,
 ⟨some 20, .ld1 (.t 19), none, [19]⟩,
 ⟨some 21, .nilck (.t 20), none, [20]⟩,
 ⟨some 22, .fa 5 (.t 21), none, [21]⟩,
 ⟨some 23, .ld1 (.t 22), none, [22]⟩,
 ⟨some 24, .len .slice (.t 23), none, [23]⟩,
 ⟨some 25, .mv (.c (.int .i64 0)), none, []⟩])
 (.block 0 (.loop c107l1)))
 (.seq (.seq (.reg [⟨some 38, .mv (.t 2), none, [2]⟩,
 ⟨some 39, .nilck (.t 38), none, [38]⟩,
 ⟨some 40, .fa 0 (.t 39), none, [39]⟩,
 ⟨some 41, .ld1 (.t 40), none, [40]⟩,
 ⟨some 42, .mv (.t 1), none, [1]⟩,
 ⟨some 43, .bin (.int .neq) (.t 41) (.t 42), none, [41, 42]⟩,
 ⟨some 44, .mv (.t 43), none, [43]⟩,
 ⟨some 45, .mv (.t 6), (some (44, false)), [6, 44]⟩,
 ⟨some 46, .mv (.t 0), (some (44, false)), [0, 44]⟩,
 ⟨some 47, .nilck (.t 46), (some (44, false)), [46, 44]⟩,
 ⟨some 48, .fa 7 (.t 47), (some (44, false)), [47, 44]⟩,
 ⟨some 49, .ld1 (.t 48), (some (44, false)), [48, 44]⟩,
 ⟨some 50, .nilck (.t 49), (some (44, false)), [49, 44]⟩,
 ⟨some 51, .fa 6 (.t 50), (some (44, false)), [50, 44]⟩,
 ⟨some 52, .ld1 (.t 51), (some (44, false)), [51, 44]⟩,
 ⟨some 53, .len .slice (.t 52), (some (44, false)), [52, 44]⟩,
 ⟨some 54, .bin (.int .geq) (.t 45) (.t 53), (some (44, false)), [45, 53, 44]⟩,
 ⟨some 55, .pick (.t 44) (.c (.bool true)) (.t 54), none, [44, 54]⟩])
 (.cond (.t 55)
 (.seq (.reg [⟨some 56, .mv (.t 0), none, [0]⟩,
 ⟨some 57, .call 103 [(.t 56), (.c (.int .i64 6))], none, [56]⟩])
 (.ret))
 (.skip)))
 (.reg [⟨some 58, .mv (.t 0), none, [0]⟩,
 ⟨some 59, .mv (.t 0), none, [0]⟩,
 ⟨some 60, .nilck (.t 59), none, [59]⟩,
 ⟨some 61, .fa 7 (.t 60), none, [60]⟩,
 ⟨some 62, .ld1 (.t 61), none, [61]⟩,
 ⟨some 63, .nilck (.t 62), none, [62]⟩,
 ⟨some 64, .fa 6 (.t 63), none, [63]⟩,
 ⟨some 65, .ld1 (.t 64), none, [64]⟩,
 ⟨some 66, .mv (.t 6), none, [6]⟩,
 ⟨some 67, .ia 7 (.t 65) (.t 66), none, [65, 66]⟩,
 ⟨some 68, .nilck (.t 58), none, [58]⟩,
 ⟨some 69, .fa 7 (.t 68), none, [68]⟩,
 ⟨none, .st 1 (.t 69) (.t 67), none, [69, 67]⟩])))
theorem c107_ctr : CtrOf 107 70 [] c107 := ctrOf Tryz.func107 (by kernel_rfl) (by kernel_rfl) rfl (by kernel_rfl) (by kernel_rfl)
def c105l1 : RC :=
 .seq (.reg [⟨some 29, .bin (.int .lss) (.t 28) (.t 27), none, [28, 27]⟩])
 (.seq (.cond (.t 29)
 (.skip)
 (.exit 0))
 (.seq (.block 1 (.seq (.reg [⟨some 30, .mv (.t 28), none, [28]⟩,
 ⟨some 4, .mv (.t 30), none, [30]⟩])
 (.seq (.reg [⟨some 31, .mv (.t 0), none, [0]⟩,
 ⟨some 32, .nilck (.t 31), none, [31]⟩,
 ⟨some 33, .fa 7 (.t 32), none, [32]⟩,
 ⟨some 34, .ld1 (.t 33), none, [33]⟩,
 ⟨some 35, .nilck (.t 34), none, [34]⟩,
 ⟨some 36, .fa 6 (.t 35), none, [35]⟩,
 ⟨some 37, .ld1 (.t 36), none, [36]⟩,
 ⟨some 38, .mv (.t 4), none, [4]⟩,
 ⟨some 39, .ia 7 (.t 37) (.t 38), none, [37, 38]⟩,
 ⟨some 5, .mv (.t 39), none, [39]⟩])
 (.seq (.draw [⟨some 40, .mv (.t 5), none, [5]⟩,
 ⟨some 41, .nilck (.t 40), none, [40]⟩,
 ⟨some 42, .fa 1 (.t 41), none, [41]⟩,
 ⟨some 43, .ld1 (.t 42), none, [42]⟩,
 ⟨some 44, .mv (.t 5), none, [5]⟩,
 ⟨some 45, .nilck (.t 44), none, [44]⟩,
 ⟨some 46, .fa 6 (.t 45), none, [45]⟩,
 ⟨some 47, .ld1 (.t 46), none, [46]⟩,
 ⟨some 48, .ia 7 (.t 47) (.c (.int .i64 0)), none, [47]⟩,
 ⟨some 49, .build [(.int .i64 0), (.int .i64 0), (.str []), .nilslice, .nilptr, .nilptr, (.bool false)] [(0, 1, (.c (.int .i64 3))), (1, 1, (.t 43)), (4, 1, (.t 48))], none, [43, 48]⟩,
 ⟨some 50, .box (.t 49), none, [49]⟩,
 ⟨some 6, .mv (.t 50), none, [50]⟩] [(3, [12]), (7, [12])])
 (.seq (.reg [⟨some 51, .mv (.t 3), none, [3]⟩,
 ⟨some 52, .mv (.t 6), none, [6]⟩,
 ⟨some 53, .bsl 1 1 [.nilptr] [(0, 1, (.t 52))], none, [52]⟩,
 ⟨some 54, .app 1 (.t 51) (.t 53), none, [51, 53]⟩,
 ⟨some 3, .mv (.t 54), none, [54]⟩])
 (.draw [⟨some 55, .mv (.t 0), none, [0]⟩,
 ⟨some 56, .mv (.t 0), none, [0]⟩,
 ⟨some 57, .nilck (.t 56), none, [56]⟩,
 ⟨some 58, .fa 8 (.t 57), none, [57]⟩,
 ⟨some 59, .ld1 (.t 58), none, [58]⟩,
 ⟨some 60, .mv (.t 5), none, [5]⟩,
 ⟨some 61, .nilck (.t 60), none, [60]⟩,
 ⟨some 62, .fa 2 (.t 61), none, [61]⟩,
 ⟨some 63, .ld1 (.t 62), none, [62]⟩,
 ⟨some 64, .mv (.t 6), none, [6]⟩,
 ⟨some 65, .call 152 [(.t 59), (.t 63), (.t 64)], none, [59, 63, 64]⟩,
 ⟨some 66, .nilck (.t 55), none, [55]⟩,
 ⟨some 67, .fa 8 (.t 66), none, [66]⟩,
 ⟨none, .st 1 (.t 67) (.t 65), none, [67, 65]⟩] [(4, [10]), (8, [10])]))))))
 (.reg [⟨some 68, .bin (.int .add) (.t 28) (.c (.int .i64 1)), none, [28]⟩,
 ⟨some 28, .mv (.t 68), none, [68]⟩])))
def c105l2 : RC :=
 .seq (.reg [⟨some 72, .bin (.int .lss) (.t 71) (.t 70), none, [71, 70]⟩])
 (.seq (.cond (.t 72)
 (.skip)
 (.exit 2))
 (.seq (.block 3 (.seq (.reg [⟨some 73, .ia 1 (.t 69) (.t 71), none, [69, 71]⟩,
 ⟨some 74, .ld1 (.t 73), none, [73]⟩,
 ⟨some 8, .mv (.t 74), none, [74]⟩])
 (.reg [⟨some 75, .mv (.t 8), none, [8]⟩,
 ⟨some 76, .mv (.t 0), none, [0]⟩,
 ⟨some 77, .nilck (.t 76), none, [76]⟩,
 ⟨some 78, .fa 8 (.t 77), none, [77]⟩,
 ⟨some 79, .ld1 (.t 78), none, [78]⟩,
 ⟨some 80, .nilck (.t 75), none, [75]⟩,
 ⟨some 81, .fa 5 (.t 80), none, [80]⟩,
 ⟨none, .st 1 (.t 81) (.t 79), none, [81, 79]⟩])))
 (.reg [⟨some 82, .bin (.int .add) (.t 71) (.c (.int .i64 1)), none, [71]⟩,
 ⟨some 71, .mv (.t 82), none, [82]⟩])))
def c105 : RC :=
 .seq (.reg [⟨some 9, .mv (.t 0), none, [0]⟩,
 ⟨some 10, .nilck (.t 9), none, [9]⟩,
 ⟨some 11, .fa 7 (.t 10), none, [10]⟩,
 ⟨some 12, .ld1 (.t 11), none, [11]⟩,
 ⟨some 13, .nilck (.t 12), none, [12]⟩,
 ⟨some 14, .fa 6 (.t 13), none, [13]⟩,
 ⟨some 15, .ld1 (.t 14), none, [14]⟩,
 ⟨some 16, .len .slice (.t 15), none, [15]⟩,
 ⟨some 17, .bin (.int .sub) (.t 16) (.c (.int .i64 1)), none, [16]⟩,
 ⟨some 2, .mv (.t 17), none, [17]⟩])
 (.seq (.reg [⟨some 3, .mv (.c .nilslice), none, []⟩])
 (.seq (.seq (.reg [⟨some 18, .mv (.t 0), none, [0]⟩,
 ⟨some 19, .nilck (.t 18), none, [18]⟩,
 ⟨some 20, .fa 7 (.t 19), none, [19]⟩,
 ⟨some 21, .ld1 (.t 20), none, [20]⟩,
 ⟨some 22, .nilck (.t 21), none, [21]⟩,
 ⟨some 23, .fa 6 (.t 22), none, [22]⟩,
 ⟨some 24, .ld1 (.t 23), none, [23]⟩,
 ⟨some 25, .mv (.t 2), none, [2]⟩,
 ⟨some 26, .sl 7 (.t 24) none (some (.t 25)) none, none, [24, 25]⟩,
 ⟨some 27, .len .slice (.t 26), none, [26]⟩,
 ⟨some 28, .mv (.c (.int .i64 0)), none, []⟩])
 (.block 0 (.loop c105l1)))
 (.seq (.seq (.reg [⟨some 69, .mv (.t 3), none, [3]⟩,
 ⟨some 70, .len .slice (.t 69), none, [69]⟩,
 ⟨some 71, .mv (.c (.int .i64 0)), none, []⟩])
 (.block 2 (.loop c105l2)))
 (.reg [⟨some 83, .mv (.t 0), none, [0]⟩,
 ⟨some 84, .mv (.t 0), none, [0]⟩,
 ⟨some 85, .nilck (.t 84), none, [84]⟩,
 ⟨some 86, .fa 7 (.t 85), none, [85]⟩,
 ⟨some 87, .ld1 (.t 86), none, [86]⟩,
 ⟨some 88, .nilck (.t 87), none, [87]⟩,
 ⟨some 89, .fa 6 (.t 88), none, [88]⟩,
 ⟨some 90, .ld1 (.t 89), none, [89]⟩,
 ⟨some 91, .mv (.t 2), none, [2]⟩,
 ⟨some 92, .ia 7 (.t 90) (.t 91), none, [90, 91]⟩,
 ⟨some 93, .nilck (.t 83), none, [83]⟩,
 ⟨some 94, .fa 7 (.t 93), none, [93]⟩,
 ⟨none, .st 1 (.t 94) (.t 92), none, [94, 92]⟩]))))
theorem c105_ctr : CtrOf 105 95 [] c105 := ctrOf Tryz.func105 (by kernel_rfl) (by kernel_rfl) rfl (by kernel_rfl) (by kernel_rfl)
def c104l1 : RC :=
 .seq (.reg [⟨some 32, .bin (.int .lss) (.t 31) (.t 30), none, [31, 30]⟩])
 (.seq (.cond (.t 32)
 (.skip)
 (.exit 1))
 (.seq (.block 2 (.seq (.reg [⟨some 33, .mv (.t 31), none, [31]⟩,
 ⟨some 34, .ia 1 (.t 29) (.t 31), none, [29, 31]⟩,
 ⟨some 35, .ld1 (.t 34), none, [34]⟩,
 ⟨some 6, .mv (.t 33), none, [33]⟩,
 ⟨some 7, .mv (.t 35), none, [35]⟩])
 (.reg [⟨some 36, .mv (.t 0), none, [0]⟩,
 ⟨some 37, .mv (.t 0), none, [0]⟩,
 ⟨some 38, .nilck (.t 37), none, [37]⟩,
 ⟨some 39, .fa 8 (.t 38), none, [38]⟩,
 ⟨some 40, .ld1 (.t 39), none, [39]⟩,
 ⟨some 41, .mv (.t 6), none, [6]⟩,
 ⟨some 42, .bin (.int .add) (.c (.int .i64 1)) (.t 41), none, [41]⟩,
 ⟨some 43, .mv (.t 7), none, [7]⟩,
 ⟨some 44, .call 152 [(.t 40), (.t 42), (.t 43)], none, [40, 42, 43]⟩,
 ⟨some 45, .nilck (.t 36), none, [36]⟩,
 ⟨some 46, .fa 8 (.t 45), none, [45]⟩,
 ⟨none, .st 1 (.t 46) (.t 44), none, [46, 44]⟩])))
 (.reg [⟨some 47, .bin (.int .add) (.t 31) (.c (.int .i64 1)), none, [31]⟩,
 ⟨some 31, .mv (.t 47), none, [47]⟩])))
def c104 : RC :=
 .block 0 (.seq (.reg [⟨some 49, .mv (.t 1), none, [1]⟩,
 ⟨some 50, .nilck (.t 49), none, [49]⟩,
 ⟨some 51, .fa 0 (.t 50), none, [50]⟩,
 ⟨some 52, .ld1 (.t 51), none, [51]⟩,
 ⟨some 53, .bin (.int .neq) (.t 52) (.c (.int .i64 3)), none, [52]⟩,
 ⟨some 48, .mv (.t 53), none, [53]⟩])
 (.cond (.t 48)
 (.reg [⟨some 54, .mv (.t 0), none, [0]⟩,
 ⟨some 55, .call 103 [(.t 54), (.c (.int .i64 6))], none, [54]⟩])
 (.seq (.reg [⟨some 57, .mv (.t 1), none, [1]⟩,
 ⟨some 58, .nilck (.t 57), none, [57]⟩,
 ⟨some 59, .fa 6 (.t 58), none, [58]⟩,
 ⟨some 60, .ld1 (.t 59), none, [59]⟩,
 ⟨some 61, .un .not (.t 60), none, [60]⟩,
 ⟨some 56, .mv (.t 61), none, [61]⟩])
 (.cond (.t 56)
 (.draw [⟨some 62, .mv (.t 0), none, [0]⟩,
 ⟨some 63, .mv (.t 0), none, [0]⟩,
 ⟨some 64, .mv (.t 1), none, [1]⟩,
 ⟨some 65, .nilck (.t 64), none, [64]⟩,
 ⟨some 66, .fa 4 (.t 65), none, [65]⟩,
 ⟨some 67, .ld1 (.t 66), none, [66]⟩,
 ⟨some 68, .mv (.t 1), none, [1]⟩,
 ⟨some 69, .nilck (.t 68), none, [68]⟩,
 ⟨some 70, .fa 5 (.t 69), none, [69]⟩,
 ⟨some 71, .ld1 (.t 70), none, [70]⟩,
 ⟨some 72, .mv (.t 1), none, [1]⟩,
 ⟨some 73, .nilck (.t 72), none, [72]⟩,
 ⟨some 74, .fa 1 (.t 73), none, [73]⟩,
 ⟨some 75, .ld1 (.t 74), none, [74]⟩,
 ⟨some 76, .mv (.t 2), none, [2]⟩,
 ⟨some 77, .call 152 [(.t 71), (.t 75), (.t 76)], none, [71, 75, 76]⟩,
 ⟨some 78, .nilck (.t 62), none, [62]⟩,
 ⟨some 79, .fa 7 (.t 78), none, [78]⟩,
 ⟨none, .st 1 (.t 79) (.t 67), none, [79, 67]⟩,
 ⟨some 80, .nilck (.t 63), none, [63]⟩,
 ⟨some 81, .fa 8 (.t 80), none, [80]⟩,
 ⟨none, .st 1 (.t 81) (.t 77), none, [81, 77]⟩] [(5, [15, 18]), (9, [15]), (13, [15])])
 (.seq (.draw [⟨some 8, .mv (.t 0), none, [0]⟩,
 ⟨some 9, .mv (.t 0), none, [0]⟩,
 ⟨some 10, .nilck (.t 9), none, [9]⟩,
 ⟨some 11, .fa 10 (.t 10), none, [10]⟩,
 ⟨some 12, .ld1 (.t 11), none, [11]⟩,
 ⟨some 13, .mv (.t 1), none, [1]⟩,
 ⟨some 14, .nilck (.t 13), none, [13]⟩,
 ⟨some 15, .fa 1 (.t 14), none, [14]⟩,
 ⟨some 16, .ld1 (.t 15), none, [15]⟩,
 ⟨some 17, .ia 8 (.t 12) (.t 16), none, [12, 16]⟩,
 ⟨some 18, .fa 1 (.t 17), none, [17]⟩,
 ⟨some 19, .nilck (.t 8), none, [8]⟩,
 ⟨some 20, .fa 7 (.t 19), none, [19]⟩,
 ⟨none, .st 1 (.t 20) (.t 18), none, [20, 18]⟩] [(4, [13]), (8, [13])])
 (.seq (.reg [⟨some 21, .mv (.t 0), none, [0]⟩,
 ⟨some 22, .mv (.t 2), none, [2]⟩,
 ⟨some 23, .call 152 [(.c .nilptr), (.c (.int .i64 0)), (.t 22)], none, [22]⟩,
 ⟨some 24, .nilck (.t 21), none, [21]⟩,
 ⟨some 25, .fa 8 (.t 24), none, [24]⟩,
 ⟨none, .st 1 (.t 25) (.t 23), none, [25, 23]⟩])
 (.seq (.reg [⟨some 26, .mv (.t 1), none, [1]⟩,
 ⟨some 27, .nilck (.t 26), none, [26]⟩,
 ⟨some 28, .fa 3 (.t 27), none, [27]⟩,
 ⟨some 29, .ld1 (.t 28), none, [28]⟩,
 ⟨some 30, .len .slice (.t 29), none, [29]⟩,
 ⟨some 31, .mv (.c (.int .i64 0)), none, []⟩])
 (.block 1 (.loop c104l1)))))))))
theorem c104_ctr : CtrOf 104 82 [] c104 := ctrOf Tryz.func104 (by kernel_rfl) (by kernel_rfl) rfl (by kernel_rfl) (by kernel_rfl)
def c100l1 : RC :=
 .seq (.reg [⟨some 15, .bin (.int .lss) (.t 14) (.t 13), none, [14, 13]⟩])
 (.seq (.cond (.t 15)
 (.skip)
 (.exit 0))
 (.seq (.block 1 (.seq (.reg [⟨some 16, .ia 3 (.t 12) (.t 14), none, [12, 14]⟩,
 ⟨some 17, .ldn 3 (.t 16), none, [16]⟩,
 ⟨some 5, .new [(.int .i64 0), (.int .i64 0), (.str [])], none, []⟩,
 ⟨none, .st 3 (.t 5) (.t 17), none, [5, 17]⟩])
 (.seq (.reg [⟨some 18, .fa 0 (.t 5), none, [5]⟩,
 ⟨some 19, .ld1 (.t 18), none, [18]⟩])
 (.block 2 (.seq (.reg [⟨some 27, .bin (.int .eql) (.t 19) (.c (.int .i64 1)), none, [19]⟩,
 ⟨some 26, .mv (.t 27), none, [27]⟩])
 (.cond (.t 26)
 (.draw [⟨some 28, .mv (.t 3), none, [3]⟩,
 ⟨some 29, .mv (.t 0), none, [0]⟩,
 ⟨some 30, .nilck (.t 29), none, [29]⟩,
 ⟨some 31, .fa 8 (.t 30), none, [30]⟩,
 ⟨some 32, .ld1 (.t 31), none, [31]⟩,
 ⟨some 33, .fa 1 (.t 5), none, [5]⟩,
 ⟨some 34, .ld1 (.t 33), none, [33]⟩,
 ⟨some 35, .call 149 [(.t 32), (.t 34)], none, [32, 34]⟩,
 ⟨some 36, .bsl 1 1 [.nilptr] [(0, 1, (.t 35))], none, [35]⟩,
 ⟨some 37, .app 1 (.t 28) (.t 36), none, [28, 36]⟩,
 ⟨some 3, .mv (.t 37), none, [37]⟩] [(4, [7]), (6, [7])])
 (.seq (.reg [⟨some 39, .bin (.int .eql) (.t 19) (.c (.int .i64 2)), none, [19]⟩,
 ⟨some 38, .mv (.t 39), none, [39]⟩])
 (.cond (.t 38)
 (.reg [⟨some 40, .mv (.t 3), none, [3]⟩,
 ⟨some 41, .fa 1 (.t 5), none, [5]⟩,
 ⟨some 42, .ld1 (.t 41), none, [41]⟩,
 ⟨some 43, .call 79 [(.t 42)], none, [42]⟩,
 ⟨some 44, .bsl 1 1 [.nilptr] [(0, 1, (.t 43))], none, [43]⟩,
 ⟨some 45, .app 1 (.t 40) (.t 44), none, [40, 44]⟩,
 ⟨some 3, .mv (.t 45), none, [45]⟩])
 (.reg [⟨some 20, .mv (.t 3), none, [3]⟩,
 ⟨some 21, .fa 2 (.t 5), none, [5]⟩,
 ⟨some 22, .ld1 (.t 21), none, [21]⟩,
 ⟨some 23, .call 148 [(.t 22)], none, [22]⟩,
 ⟨some 24, .bsl 1 1 [.nilptr] [(0, 1, (.t 23))], none, [23]⟩,
 ⟨some 25, .app 1 (.t 20) (.t 24), none, [20, 24]⟩,
 ⟨some 3, .mv (.t 25), none, [25]⟩])))))))))
 (.reg [⟨some 46, .bin (.int .add) (.t 14) (.c (.int .i64 1)), none, [14]⟩,
 ⟨some 14, .mv (.t 46), none, [46]⟩])))
def c100 : RC :=
 .seq (.reg [⟨some 2, .mv (.c .nilslice), none, []⟩])
 (.seq (.reg [⟨some 3, .mv (.c .nilslice), none, []⟩])
 (.seq (.seq (.reg [⟨some 6, .mv (.t 0), none, [0]⟩,
 ⟨some 7, .nilck (.t 6), none, [6]⟩,
 ⟨some 8, .fa 7 (.t 7), none, [7]⟩,
 ⟨some 9, .ld1 (.t 8), none, [8]⟩,
 ⟨some 10, .nilck (.t 9), none, [9]⟩,
 ⟨some 11, .fa 4 (.t 10), none, [10]⟩,
 ⟨some 12, .ld1 (.t 11), none, [11]⟩,
 ⟨some 13, .len .slice (.t 12), none, [12]⟩,
 ⟨some 14, .mv (.c (.int .i64 0)), none, []⟩])
 (.block 0 (.loop c100l1)))
 (.seq (.reg [⟨some 47, .mv (.t 3), none, [3]⟩,
 ⟨some 2, .mv (.t 47), none, [47]⟩])
 (.ret))))
theorem c100_ctr : CtrOf 100 48 [.t 2] c100 := ctrOf Tryz.func100 (by kernel_rfl) (by kernel_rfl) rfl (by kernel_rfl) (by kernel_rfl)
def c59 : RC :=
 .seq (.draw [⟨some 4, .mv (.t 0), none, [0]⟩,
 ⟨some 5, .nilck (.t 4), none, [4]⟩,
 ⟨some 6, .fa 7 (.t 5), none, [5]⟩,
 ⟨some 7, .ld1 (.t 6), none, [6]⟩,
 ⟨some 8, .mv (.t 0), none, [0]⟩,
 ⟨some 9, .call 100 [(.t 8)], none, [8]⟩,
 ⟨some 2, .mv (.t 7), none, [7]⟩,
 ⟨some 3, .mv (.t 9), none, [9]⟩] [(3, [5, 8])])
 (.seq (.reg [⟨some 10, .mv (.t 2), none, [2]⟩,
 ⟨some 11, .nilck (.t 10), none, [10]⟩,
 ⟨some 12, .fa 0 (.t 11), none, [11]⟩,
 ⟨some 13, .ld1 (.t 12), none, [12]⟩])
 (.block 0 (.seq (.reg [⟨some 15, .bin (.int .eql) (.t 13) (.c (.int .i64 1)), none, [13]⟩,
 ⟨some 14, .mv (.t 15), none, [15]⟩])
 (.cond (.t 14)
 (.reg [⟨some 16, .mv (.t 0), none, [0]⟩,
 ⟨some 17, .mv (.t 3), none, [3]⟩,
 ⟨some 18, .ia 1 (.t 17) (.c (.int .i64 0)), none, [17]⟩,
 ⟨some 19, .ld1 (.t 18), none, [18]⟩,
 ⟨some 20, .call 101 [(.t 16), (.t 19)], none, [16, 19]⟩])
 (.seq (.seq (.reg [⟨some 22, .bin (.int .eql) (.t 13) (.c (.int .i64 2)), none, [13]⟩,
 ⟨some 21, .mv (.t 22), none, [22]⟩])
 (.cond (.t 21)
 (.skip)
 (.reg [⟨some 23, .bin (.int .eql) (.t 13) (.c (.int .i64 11)), none, [13]⟩,
 ⟨some 21, .mv (.t 23), none, [23]⟩])))
 (.cond (.t 21)
 (.seq (.draw [⟨some 24, .mv (.t 0), none, [0]⟩,
 ⟨some 25, .mv (.t 0), none, [0]⟩,
 ⟨some 26, .nilck (.t 25), none, [25]⟩,
 ⟨some 27, .fa 9 (.t 26), none, [26]⟩,
 ⟨some 28, .ld1 (.t 27), none, [27]⟩,
 ⟨some 29, .mv (.t 2), none, [2]⟩,
 ⟨some 30, .nilck (.t 29), none, [29]⟩,
 ⟨some 31, .fa 0 (.t 30), none, [30]⟩,
 ⟨some 32, .ld1 (.t 31), none, [31]⟩,
 ⟨some 33, .bin (.int .eql) (.t 32) (.c (.int .i64 11)), none, [32]⟩,
 ⟨some 34, .mv (.t 2), none, [2]⟩,
 ⟨some 35, .nilck (.t 34), none, [34]⟩,
 ⟨some 36, .fa 1 (.t 35), none, [35]⟩,
 ⟨some 37, .ld1 (.t 36), none, [36]⟩,
 ⟨some 38, .mv (.t 2), none, [2]⟩,
 ⟨some 39, .nilck (.t 38), none, [38]⟩,
 ⟨some 40, .fa 6 (.t 39), none, [39]⟩,
 ⟨some 41, .ld1 (.t 40), none, [40]⟩,
 ⟨some 42, .ia 7 (.t 41) (.c (.int .i64 1)), none, [41]⟩,
 ⟨some 43, .mv (.t 0), none, [0]⟩,
 ⟨some 44, .nilck (.t 43), none, [43]⟩,
 ⟨some 45, .fa 8 (.t 44), none, [44]⟩,
 ⟨some 46, .ld1 (.t 45), none, [45]⟩,
 ⟨some 47, .build [(.bool false), (.int .i64 0), .nilptr, .nilptr] [(0, 1, (.t 33)), (1, 1, (.t 37)), (2, 1, (.t 42)), (3, 1, (.t 46))], none, [33, 37, 42, 46]⟩,
 ⟨some 48, .bsl 1 4 [(.bool false), (.int .i64 0), .nilptr, .nilptr] [(0, 4, (.t 47))], none, [47]⟩,
 ⟨some 49, .app 4 (.t 28) (.t 48), none, [28, 48]⟩,
 ⟨some 50, .nilck (.t 24), none, [24]⟩,
 ⟨some 51, .fa 9 (.t 50), none, [50]⟩,
 ⟨none, .st 1 (.t 51) (.t 49), none, [51, 49]⟩] [(4, [25]), (8, [25]), (13, [25]), (17, [25]), (22, [25])])
 (.reg [⟨some 52, .mv (.t 0), none, [0]⟩,
 ⟨some 53, .mv (.t 2), none, [2]⟩,
 ⟨some 54, .nilck (.t 53), none, [53]⟩,
 ⟨some 55, .fa 6 (.t 54), none, [54]⟩,
 ⟨some 56, .ld1 (.t 55), none, [55]⟩,
 ⟨some 57, .ia 7 (.t 56) (.c (.int .i64 0)), none, [56]⟩,
 ⟨some 58, .nilck (.t 52), none, [52]⟩,
 ⟨some 59, .fa 7 (.t 58), none, [58]⟩,
 ⟨none, .st 1 (.t 59) (.t 57), none, [59, 57]⟩]))
 (.seq (.reg [⟨some 61, .bin (.int .eql) (.t 13) (.c (.int .i64 3)), none, [13]⟩,
 ⟨some 60, .mv (.t 61), none, [61]⟩])
 (.cond (.t 60)
 (.draw [⟨some 62, .mv (.t 0), none, [0]⟩,
 ⟨some 63, .nilck (.t 62), none, [62]⟩,
 ⟨some 64, .fa 11 (.t 63), none, [63]⟩,
 ⟨some 65, .ld1 (.t 64), none, [64]⟩,
 ⟨some 66, .mv (.t 2), none, [2]⟩,
 ⟨some 67, .nilck (.t 66), none, [66]⟩,
 ⟨some 68, .fa 3 (.t 67), none, [67]⟩,
 ⟨some 69, .ld1 (.t 68), none, [68]⟩,
 ⟨some 70, .look .str .nilfunc false (.t 65) (.t 69), none, [65, 69]⟩,
 ⟨some 71, .mv (.t 0), none, [0]⟩,
 ⟨some 72, .mv (.t 3), none, [3]⟩,
 ⟨some 73, .callv (.t 70) [(.t 71), (.t 72)], none, [70, 71, 72]⟩] [(3, [11]), (7, [11]), (8, [11])])
 (.seq (.reg [⟨some 75, .bin (.int .eql) (.t 13) (.c (.int .i64 4)), none, [13]⟩,
 ⟨some 74, .mv (.t 75), none, [75]⟩])
 (.cond (.t 74)
 (.reg [⟨some 76, .mv (.t 0), none, [0]⟩,
 ⟨some 77, .mv (.t 2), none, [2]⟩,
 ⟨some 78, .nilck (.t 77), none, [77]⟩,
 ⟨some 79, .fa 2 (.t 78), none, [78]⟩,
 ⟨some 80, .ld1 (.t 79), none, [79]⟩,
 ⟨some 81, .mv (.t 3), none, [3]⟩,
 ⟨some 82, .call 102 [(.t 80), (.t 81)], none, [80, 81]⟩,
 ⟨some 83, .call 101 [(.t 76), (.t 82)], none, [76, 82]⟩])
 (.seq (.reg [⟨some 85, .bin (.int .eql) (.t 13) (.c (.int .i64 5)), none, [13]⟩,
 ⟨some 84, .mv (.t 85), none, [85]⟩])
 (.cond (.t 84)
 (.seq (.seq (.draw [⟨some 86, .mv (.t 3), none, [3]⟩,
 ⟨some 87, .ia 1 (.t 86) (.c (.int .i64 0)), none, [86]⟩,
 ⟨some 88, .ld1 (.t 87), none, [87]⟩,
 ⟨some 89, .nilck (.t 88), none, [88]⟩,
 ⟨some 90, .fa 0 (.t 89), none, [89]⟩,
 ⟨some 91, .ld1 (.t 90), none, [90]⟩,
 ⟨some 92, .bin (.int .neq) (.t 91) (.c (.int .i64 4)), none, [91]⟩,
 ⟨some 93, .mv (.t 92), none, [92]⟩,
 ⟨some 94, .mv (.t 2), (some (93, false)), [2, 93]⟩,
 ⟨some 95, .nilck (.t 94), (some (93, false)), [94, 93]⟩,
 ⟨some 96, .fa 2 (.t 95), (some (93, false)), [95, 93]⟩,
 ⟨some 97, .ld1 (.t 96), (some (93, false)), [96, 93]⟩,
 ⟨some 98, .mv (.t 3), (some (93, false)), [3, 93]⟩,
 ⟨some 99, .ia 1 (.t 98) (.c (.int .i64 0)), (some (93, false)), [98, 93]⟩,
 ⟨some 100, .ld1 (.t 99), (some (93, false)), [99, 93]⟩,
 ⟨some 101, .nilck (.t 100), (some (93, false)), [100, 93]⟩,
 ⟨some 102, .fa 3 (.t 101), (some (93, false)), [101, 93]⟩,
 ⟨some 103, .ld1 (.t 102), (some (93, false)), [102, 93]⟩,
 ⟨some 104, .len .slice (.t 103), (some (93, false)), [103, 93]⟩,
 ⟨some 105, .bin (.int .geq) (.t 97) (.t 104), (some (93, false)), [97, 104, 93]⟩,
 ⟨some 106, .pick (.t 93) (.c (.bool true)) (.t 105), none, [93, 105]⟩] [])
 (.cond (.t 106)
 (.seq (.reg [⟨some 107, .mv (.t 0), none, [0]⟩,
 ⟨some 108, .call 103 [(.t 107), (.c (.int .i64 6))], none, [107]⟩])
 (.ret))
 (.skip)))
 (.draw [⟨some 109, .mv (.t 0), none, [0]⟩,
 ⟨some 110, .mv (.t 3), none, [3]⟩,
 ⟨some 111, .ia 1 (.t 110) (.c (.int .i64 0)), none, [110]⟩,
 ⟨some 112, .ld1 (.t 111), none, [111]⟩,
 ⟨some 113, .nilck (.t 112), none, [112]⟩,
 ⟨some 114, .fa 3 (.t 113), none, [113]⟩,
 ⟨some 115, .ld1 (.t 114), none, [114]⟩,
 ⟨some 116, .mv (.t 2), none, [2]⟩,
 ⟨some 117, .nilck (.t 116), none, [116]⟩,
 ⟨some 118, .fa 2 (.t 117), none, [117]⟩,
 ⟨some 119, .ld1 (.t 118), none, [118]⟩,
 ⟨some 120, .ia 1 (.t 115) (.t 119), none, [115, 119]⟩,
 ⟨some 121, .ld1 (.t 120), none, [120]⟩,
 ⟨some 122, .call 101 [(.t 109), (.t 121)], none, [109, 121]⟩] [(3, [13]), (6, [13]), (10, [13]), (12, [13])]))
 (.seq (.reg [⟨some 124, .bin (.int .eql) (.t 13) (.c (.int .i64 6)), none, [13]⟩,
 ⟨some 123, .mv (.t 124), none, [124]⟩])
 (.cond (.t 123)
 (.draw [⟨some 125, .mv (.t 0), none, [0]⟩,
 ⟨some 126, .mv (.t 3), none, [3]⟩,
 ⟨some 127, .ia 1 (.t 126) (.c (.int .i64 0)), none, [126]⟩,
 ⟨some 128, .ld1 (.t 127), none, [127]⟩,
 ⟨some 129, .mv (.t 3), none, [3]⟩,
 ⟨some 130, .ia 1 (.t 129) (.c (.int .i64 1)), none, [129]⟩,
 ⟨some 131, .ld1 (.t 130), none, [130]⟩,
 ⟨some 132, .call 104 [(.t 125), (.t 128), (.t 131)], none, [125, 128, 131]⟩] [(3, [7]), (6, [7])])
 (.seq (.reg [⟨some 134, .bin (.int .eql) (.t 13) (.c (.int .i64 7)), none, [13]⟩,
 ⟨some 133, .mv (.t 134), none, [134]⟩])
 (.cond (.t 133)
 (.draw [⟨some 135, .mv (.t 0), none, [0]⟩,
 ⟨some 136, .mv (.t 2), none, [2]⟩,
 ⟨some 137, .nilck (.t 136), none, [136]⟩,
 ⟨some 138, .fa 1 (.t 137), none, [137]⟩,
 ⟨some 139, .ld1 (.t 138), none, [138]⟩,
 ⟨some 140, .mv (.t 2), none, [2]⟩,
 ⟨some 141, .nilck (.t 140), none, [140]⟩,
 ⟨some 142, .fa 6 (.t 141), none, [141]⟩,
 ⟨some 143, .ld1 (.t 142), none, [142]⟩,
 ⟨some 144, .ia 7 (.t 143) (.c (.int .i64 0)), none, [143]⟩,
 ⟨some 145, .mv (.t 0), none, [0]⟩,
 ⟨some 146, .nilck (.t 145), none, [145]⟩,
 ⟨some 147, .fa 8 (.t 146), none, [146]⟩,
 ⟨some 148, .ld1 (.t 147), none, [147]⟩,
 ⟨some 149, .build [(.int .i64 0), (.int .i64 0), (.str []), .nilslice, .nilptr, .nilptr, (.bool false)] [(0, 1, (.c (.int .i64 3))), (1, 1, (.t 139)), (4, 1, (.t 144)), (5, 1, (.t 148))], none, [139, 144, 148]⟩,
 ⟨some 150, .box (.t 149), none, [149]⟩,
 ⟨some 151, .call 101 [(.t 135), (.t 150)], none, [135, 150]⟩] [(4, [16]), (8, [16]), (13, [16])])
 (.seq (.reg [⟨some 153, .bin (.int .eql) (.t 13) (.c (.int .i64 13)), none, [13]⟩,
 ⟨some 152, .mv (.t 153), none, [153]⟩])
 (.cond (.t 152)
 (.reg [⟨some 154, .mv (.t 0), none, [0]⟩,
 ⟨some 155, .mv (.t 2), none, [2]⟩,
 ⟨some 156, .nilck (.t 155), none, [155]⟩,
 ⟨some 157, .fa 2 (.t 156), none, [156]⟩,
 ⟨some 158, .ld1 (.t 157), none, [157]⟩,
 ⟨some 159, .mv (.t 3), none, [3]⟩,
 ⟨some 160, .build [(.int .i64 0), (.int .i64 0), (.str []), .nilslice, .nilptr, .nilptr, (.bool false)] [(0, 1, (.c (.int .i64 3))), (1, 1, (.t 158)), (3, 1, (.t 159)), (6, 1, (.c (.bool true)))], none, [158, 159]⟩,
 ⟨some 161, .box (.t 160), none, [160]⟩,
 ⟨some 162, .call 101 [(.t 154), (.t 161)], none, [154, 161]⟩])
 (.seq (.reg [⟨some 164, .bin (.int .eql) (.t 13) (.c (.int .i64 8)), none, [13]⟩,
 ⟨some 163, .mv (.t 164), none, [164]⟩])
 (.cond (.t 163)
 (.reg [⟨some 165, .mv (.t 0), none, [0]⟩,
 ⟨some 166, .call 105 [(.t 165)], none, [165]⟩])
 (.seq (.reg [⟨some 168, .bin (.int .eql) (.t 13) (.c (.int .i64 14)), none, [13]⟩,
 ⟨some 167, .mv (.t 168), none, [168]⟩])
 (.cond (.t 167)
 (.reg [⟨some 169, .mv (.t 0), none, [0]⟩,
 ⟨some 170, .mv (.t 3), none, [3]⟩,
 ⟨some 171, .call 106 [(.t 169), (.t 170)], none, [169, 170]⟩])
 (.seq (.reg [⟨some 173, .bin (.int .eql) (.t 13) (.c (.int .i64 9)), none, [13]⟩,
 ⟨some 172, .mv (.t 173), none, [173]⟩])
 (.cond (.t 172)
 (.reg [⟨some 174, .mv (.t 0), none, [0]⟩,
 ⟨some 175, .mv (.t 3), none, [3]⟩,
 ⟨some 176, .ia 1 (.t 175) (.c (.int .i64 0)), none, [175]⟩,
 ⟨some 177, .ld1 (.t 176), none, [176]⟩,
 ⟨some 178, .call 107 [(.t 174), (.c (.int .i64 4)), (.t 177)], none, [174, 177]⟩])
 (.seq (.reg [⟨some 180, .bin (.int .eql) (.t 13) (.c (.int .i64 10)), none, [13]⟩,
 ⟨some 179, .mv (.t 180), none, [180]⟩])
 (.cond (.t 179)
 (.reg [⟨some 181, .mv (.t 0), none, [0]⟩,
 ⟨some 182, .mv (.t 3), none, [3]⟩,
 ⟨some 183, .ia 1 (.t 182) (.c (.int .i64 0)), none, [182]⟩,
 ⟨some 184, .ld1 (.t 183), none, [183]⟩,
 ⟨some 185, .call 107 [(.t 181), (.c (.int .i64 1)), (.t 184)], none, [181, 184]⟩])
 (.seq (.reg [⟨some 187, .bin (.int .eql) (.t 13) (.c (.int .i64 12)), none, [13]⟩,
 ⟨some 186, .mv (.t 187), none, [187]⟩])
 (.cond (.t 186)
 (.reg [⟨some 188, .mv (.t 0), none, [0]⟩,
 ⟨some 189, .mv (.t 3), none, [3]⟩,
 ⟨some 190, .ia 1 (.t 189) (.c (.int .i64 0)), none, [189]⟩,
 ⟨some 191, .ld1 (.t 190), none, [190]⟩,
 ⟨some 192, .call 108 [(.t 188), (.t 191)], none, [188, 191]⟩])
 (.skip)))))))))))))))))))))))))))))
theorem c59_ctr : CtrOf 59 193 [] c59 := ctrOf Tryz.func59 (by kernel_rfl) (by kernel_rfl) rfl (by kernel_rfl) (by kernel_rfl)
def c40l1 : RC :=
 .seq (.seq (.reg [⟨some 15, .mv (.t 9), none, [9]⟩,
 ⟨some 16, .nilck (.t 15), none, [15]⟩,
 ⟨some 17, .fa 6 (.t 16), none, [16]⟩,
 ⟨some 18, .ld1 (.t 17), none, [17]⟩,
 ⟨some 19, .un .not (.t 18), none, [18]⟩,
 ⟨some 20, .mv (.t 19), none, [19]⟩,
 ⟨some 21, .mv (.t 9), (some (20, true)), [9, 20]⟩,
 ⟨some 22, .nilck (.t 21), (some (20, true)), [21, 20]⟩,
 ⟨some 23, .fa 1 (.t 22), (some (20, true)), [22, 20]⟩,
 ⟨some 24, .fa 3 (.t 23), (some (20, true)), [23, 20]⟩,
 ⟨some 25, .ld1 (.t 24), (some (20, true)), [24, 20]⟩,
 ⟨some 26, .mv (.t 3), (some (20, true)), [3, 20]⟩,
 ⟨some 27, .bin (.int .lss) (.t 25) (.t 26), (some (20, true)), [25, 26, 20]⟩,
 ⟨some 28, .pick (.t 20) (.t 27) (.c (.bool false)), none, [20, 27]⟩])
 (.cond (.t 28)
 (.skip)
 (.exit 0)))
 (.block 1 (.seq (.reg [⟨some 29, .mv (.t 9), none, [9]⟩,
 ⟨some 30, .nilck (.t 29), none, [29]⟩,
 ⟨some 31, .fa 1 (.t 30), none, [30]⟩,
 ⟨some 32, .fa 3 (.t 31), none, [31]⟩,
 ⟨some 33, .ld1 (.t 32), none, [32]⟩,
 ⟨some 34, .bin (.int .add) (.t 33) (.c (.int .i64 1)), none, [33]⟩,
 ⟨some 35, .nilck (.t 29), none, [29]⟩,
 ⟨some 36, .fa 1 (.t 35), none, [35]⟩,
 ⟨some 37, .fa 3 (.t 36), none, [36]⟩,
 ⟨none, .st 1 (.t 37) (.t 34), none, [37, 34]⟩])
 (.reg [⟨some 38, .mv (.t 9), none, [9]⟩,
 ⟨some 39, .call 59 [(.t 38)], none, [38]⟩])))
def c40 : RC :=
 .seq (.reg [⟨some 4, .box (.t 0), none, [0]⟩,
 ⟨some 8, .new [(.int .i64 0), (.int .i64 0), (.int .i64 0), (.int .i64 0), .nilslice], none, []⟩])
 (.seq (.reg [⟨some 10, .mv (.t 2), none, [2]⟩,
 ⟨some 11, .mv (.t 1), none, [1]⟩,
 ⟨some 12, .call 58 [], none, []⟩,
 ⟨some 13, .build [.nilslice, (.int .i64 0), (.int .i64 0), (.int .i64 0), (.int .i64 0), .nilslice, (.bool false), .nilptr, .nilptr, .nilslice, .nilslice, .nilmap] [(0, 1, (.t 10)), (7, 1, (.t 4)), (10, 1, (.t 11)), (11, 1, (.t 12))], none, [10, 4, 11, 12]⟩,
 ⟨some 14, .box (.t 13), none, [13]⟩,
 ⟨some 9, .mv (.t 14), none, [14]⟩])
 (.seq (.block 0 (.loop c40l1))
 (.seq (.seq (.reg [⟨some 40, .mv (.t 9), none, [9]⟩,
 ⟨some 41, .nilck (.t 40), none, [40]⟩,
 ⟨some 42, .fa 6 (.t 41), none, [41]⟩,
 ⟨some 43, .ld1 (.t 42), none, [42]⟩,
 ⟨some 44, .un .not (.t 43), none, [43]⟩])
 (.cond (.t 44)
 (.reg [⟨some 45, .mv (.t 9), none, [9]⟩,
 ⟨some 46, .nilck (.t 45), none, [45]⟩,
 ⟨some 47, .fa 1 (.t 46), none, [46]⟩,
 ⟨some 48, .fa 0 (.t 47), none, [47]⟩,
 ⟨none, .st 1 (.t 48) (.c (.int .i64 4)), none, [48]⟩])
 (.skip)))
 (.seq (.reg [⟨some 49, .mv (.t 9), none, [9]⟩,
 ⟨some 50, .nilck (.t 49), none, [49]⟩,
 ⟨some 51, .fa 1 (.t 50), none, [50]⟩,
 ⟨some 52, .ldn 5 (.t 51), none, [51]⟩,
 ⟨none, .st 5 (.t 8) (.t 52), none, [8, 52]⟩])
 (.ret)))))
theorem c40_ctr : CtrOf 40 53 [.cn 8 5] c40 := ctrOf Tryz.func40 (by kernel_rfl) (by kernel_rfl) rfl (by kernel_rfl) (by kernel_rfl)
def c13 : RC :=
 .seq (.reg [⟨some 3, .box (.t 0), none, [0]⟩,
 ⟨some 6, .new [(.int .i64 0), (.int .i64 0), (.int .i64 0), (.int .i64 0), .nilslice], none, []⟩])
 (.seq (.seq (.reg [⟨some 7, .ldn 7 (.t 3), none, [3]⟩,
 ⟨some 8, .call 20 [(.t 7)], none, [7]⟩,
 ⟨some 9, .bin (.int .neq) (.t 8) (.c (.int .i64 0)), none, [8]⟩,
 ⟨some 10, .mv (.t 9), none, [9]⟩,
 ⟨some 11, .mv (.t 2), (some (10, false)), [2, 10]⟩,
 ⟨some 12, .bin (.int .lss) (.t 11) (.c (.int .i64 0)), (some (10, false)), [11, 10]⟩,
 ⟨some 13, .pick (.t 10) (.c (.bool true)) (.t 12), none, [10, 12]⟩])
 (.cond (.t 13)
 (.seq (.reg [⟨some 14, .build [(.int .i64 0), (.int .i64 0), (.int .i64 0), (.int .i64 0), .nilslice] [(0, 1, (.c (.int .i64 5)))], none, []⟩,
 ⟨none, .st 5 (.t 6) (.t 14), none, [6, 14]⟩])
 (.ret))
 (.skip)))
 (.seq (.reg [⟨some 15, .ldn 7 (.t 3), none, [3]⟩,
 ⟨some 16, .mv (.t 1), none, [1]⟩,
 ⟨some 17, .mv (.t 2), none, [2]⟩,
 ⟨some 18, .call 40 [(.t 15), (.c .nilslice), (.t 16), (.t 17)], none, [15, 16, 17]⟩,
 ⟨none, .st 5 (.t 6) (.t 18), none, [6, 18]⟩])
 (.ret)))
theorem c13_ctr : CtrOf 13 19 [.cn 6 5] c13 := ctrOf Tryz.func13 (by kernel_rfl) (by kernel_rfl) rfl (by kernel_rfl) (by kernel_rfl)
end Go.Proofs.YtjbiefneffiogaaGreat

namespace Go.Proofs.YtjbiefneffiogaaGreat
open Go Am
def WtsR (Y : Sty) (h0 h : Heap) (K : Ks) (ad : List Pa) (w : List Wt) (vw : V) : Prop :=
  ∃ us : List (List V), SlO h0.next h Y.wsz vw w.length us.flatten ∧ (∀ b, vw.blk b → K b = .wts) ∧ us.length = w.length ∧
    ∀ (i : Nat) (a : Wt) (u : List V), w.reverse[i]? = some a → us[i]? = some u → u.length = Y.wsz ∧ ones u = true ∧ ∃ p, Y.WR h0 a p u ∧ EnvR h K ad p a.e
def OutR (h0 h : Heap) (K : Ks) (out : List UInt8) (vo : V) : Prop := SlO h0.next h 1 vo out.length (bytesV out) ∧ ∀ b, vo.blk b → K b = .out
section
variable {Y : Sty} {h0 h h' : Heap} {K K' : Ks} {ad ad' : List Pa} {ch : Ro → Prop}
theorem WtsR.tr {w : List Wt} {vw : V} (H : WtsR Y h0 h K ad w vw) (t : Tr h0 K h ad K' h' ad' ch) (h1 : ¬ ch .wts) (h2 : ¬ ch .env) : WtsR Y h0 h' K' ad' w vw := by
  obtain ⟨us, q1, q2, q3, q4⟩ := H
  refine ⟨us, SlO.tr q1 t q2 (by simp) h1, fun b hb => by rw [t.role b (by rw [q2 b hb]; simp), q2 b hb], q3, fun i a u e1 e2 => ?_⟩
  obtain ⟨a1, a2, p, a3, a4⟩ := q4 i a u e1 e2
  exact ⟨a1, a2, p, a3, a4.tr t h2⟩
theorem OutR.tr {out : List UInt8} {vo : V} (H : OutR h0 h K out vo) (t : Tr h0 K h ad K' h' ad' ch) (h1 : ¬ ch .out) : OutR h0 h' K' out vo :=
  ⟨SlO.tr H.1 t H.2 (by simp) h1, fun b hb => by rw [t.role b (by rw [H.2 b hb]; simp), H.2 b hb]⟩
theorem WtsR.one {w : List Wt} {vw : V} (H : WtsR Y h0 h K ad w vw) : vw.one = true ∧ vw.cells = [vw] ∧ vw.good = true := by
  obtain ⟨us, q1, _⟩ := H; exact q1.v.one
theorem WtsR.len {w : List Wt} {vw : V} (H : WtsR Y h0 h K ad w vw) : lenSl vw = some (.int .i64 w.length) := by
  obtain ⟨us, q1, _⟩ := H; exact q1.v.len
theorem OutR.one {out : List UInt8} {vo : V} (H : OutR h0 h K out vo) : vo.one = true ∧ vo.cells = [vo] ∧ vo.good = true := H.1.v.one
end
def CoAt (h0 : Heap) (v : V) (c : Co) : Prop := ∃ b off u, v = .ptr b off ∧ CoIn h0 c u ∧ ∀ h', Ext h0 h' → ldnB 7 (h'.get b) off = some (.agg u) ∧ ∀ j, j < 7 → ld1B (h'.get b) (off + j) = u[j]?
theorem CoAt.one {h0 : Heap} {v : V} {c : Co} (H : CoAt h0 v c) : v.one = true ∧ v.cells = [v] ∧ v.good = true := by
  obtain ⟨b, off, u, rfl, _⟩ := H; exact ⟨rfl, rfl, rfl⟩
theorem CoAt.kid {h0 : Heap} {l : List Co} {v : V} (H : CosIn h0 l v) {k : IntKind} {i : Nat} (hi : i < l.length) : ∃ p, iaV 7 v (.int k i) = some p ∧ CoAt h0 p l[i] := by
  obtain ⟨b, off, u, e1, e2, e3⟩ := H.atx (k := k) hi
  exact ⟨_, e1, b, _, u, rfl, e2, e3⟩
theorem CoAt.open {h0 : Heap} {v : V} {c : Co} (H : CoAt h0 v c) : ∃ b off va vt vl, v = .ptr b off ∧ SlV h0 3 va c.a.length (atsV c.a) ∧ SlV h0 1 vt c.t.length (intsV c.t) ∧ CosIn h0 c.l vl ∧
    ∀ h', Ext h0 h' → ld1B (h'.get b) off = some (.int .i64 c.k) ∧ ld1B (h'.get b) (off + 1) = some (.int .i64 c.x) ∧ ld1B (h'.get b) (off + 2) = some (.int .i64 c.n) ∧ ld1B (h'.get b) (off + 3) = some (.str c.s) ∧ ld1B (h'.get b) (off + 4) = some va ∧ ld1B (h'.get b) (off + 5) = some vt ∧ ld1B (h'.get b) (off + 6) = some vl := by
  obtain ⟨b, off, u, rfl, H, L⟩ := H
  obtain ⟨va, vt, vl, rfl, Ha, Ht, Hl⟩ := H.open
  refine ⟨b, off, va, vt, vl, rfl, Ha, Ht, Hl, fun h' e => ?_⟩
  have q := (L h' e).2
  exact ⟨q 0 (by omega), q 1 (by omega), q 2 (by omega), q 3 (by omega), q 4 (by omega), q 5 (by omega), q 6 (by omega)⟩
def i64 (n : Int) : V := .int .i64 n
def PY : Sty where
  VR h0 v fl ep cs := match v with
    | .int n => cs = [.int .i64 1, .int .i64 n, .str [], .nilslice, .nilptr, .nilptr, .bool false]
    | .text s => cs = [.int .i64 2, .int .i64 0, .str s, .nilslice, .nilptr, .nilptr, .bool false]
    | .fn x c _ => ∃ cp, CoAt h0 cp c ∧ cs = [.int .i64 3, .int .i64 x, .str [], .nilslice, cp, ep, .bool false]
    | .thing t _ => cs = [.int .i64 4, .int .i64 t, .str [], fl, .nilptr, .nilptr, .bool false]
  WR h0 a p u := ∃ cp, CoAt h0 cp a.c ∧ u = [.bool a.try_, .int .i64 a.x, cp, p]
  wsz := 4
  CR _ _ _ := True
  lay _ _ _ _ _ _ _ _ _ _ _ := []
structure PMach (h0 h : Heap) (mb : Pa) (K : Ks) (ad : List Pa) (inp pm : V) (S : St) (steps : Int) (cp ep vw vo : V) : Prop where
  rep : Rep PY h0 h K ad S.st
  km : K mb = .mach
  get : h.get mb = .ofL [inp, .int .i64 S.en, .int .i64 S.exn, .int .i64 S.read, .int .i64 steps, vo, .bool S.over, cp, ep, vw, .nilslice, pm] 0 false
  co : CoAt h0 cp S.c
  er : EnvR h K ad ep S.e
  wr : WtsR PY h0 h K ad S.w vw
  ou : OutR h0 h K S.out vo
def PM (h0 h : Heap) (mb : Pa) (K : Ks) (ad : List Pa) (inp pm : V) (S : St) (steps : Int) : Prop := ∃ cp ep vw vo, PMach h0 h mb K ad inp pm S steps cp ep vw vo
section
variable {h0 h h' : Heap} {mb : Pa} {K K' : Ks} {ch : Ro → Prop} {ad ad' : List Pa} {inp pm : V} {S S' : St} {steps steps' : Int} {cp ep vw vo cp' ep' vw' vo' : V}
theorem PMach.next (M : PMach h0 h mb K ad inp pm S steps cp ep vw vo) (S' : St) (steps' : Int) (cp' ep' vw' vo' : V) (hst : S'.st = S.st) (hco : CoAt h0 cp' S'.c) (her : EnvR h K ad ep' S'.e) (hwr : WtsR PY h0 h K ad S'.w vw') (hor : OutR h0 h K S'.out vo') :
    PMach h0 (h.set mb (.ofL [inp, .int .i64 S'.en, .int .i64 S'.exn, .int .i64 S'.read, .int .i64 steps', vo', .bool S'.over, cp', ep', vw', .nilslice, pm] 0 false)) mb K ad inp pm S' steps' cp' ep' vw' vo' := by
  have hn := M.rep.new mb (by rw [M.km]; simp)
  have t : Tr h0 K h ad K (h.set mb (.ofL [inp, .int .i64 S'.en, .int .i64 S'.exn, .int .i64 S'.read, .int .i64 steps', vo', .bool S'.over, cp', ep', vw', .nilslice, pm] 0 false)) ad (· = .mach) := Tr.of_set M.km hn.1
  refine ⟨?_, M.km, by rw [get_set, if_pos rfl], hco, her.tr t (by simp), hwr.tr t (by simp) (by simp), hor.tr t (by simp)⟩
  rw [hst]
  exact M.rep.tr t (by simp) (by simp) (by simp)
theorem PMach.tr (M : PMach h0 h mb K ad inp pm S steps cp ep vw vo) (t : Tr h0 K h ad K' h' ad ch) (h1 : ∀ i, ¬ ch (.val i)) (h2 : ∀ i, ¬ ch (.fld i)) (h3 : ¬ ch .env) (h4 : ¬ ch .mach) (h5 : ¬ ch .wts) (h6 : ¬ ch .out) : PMach h0 h' mb K' ad inp pm S steps cp ep vw vo := by
  have hm : K mb ≠ .no := by rw [M.km]; simp
  exact ⟨M.rep.tr t h1 h2 h3, by rw [t.role mb hm, M.km], by rw [t.get mb hm (by rw [M.km]; exact h4), M.get], M.co, M.er.tr t h3, M.wr.tr t h5 h3, M.ou.tr t h6⟩
theorem PMach.old (M : PMach h0 h mb K ad inp pm S steps cp ep vw vo) : h0.next ≤ unPa mb ∧ unPa mb < h.next := M.rep.new mb (by rw [M.km]; simp)
theorem PMach.ext (M : PMach h0 h mb K ad inp pm S steps cp ep vw vo) (e : Ext h h') : PMach h0 h' mb K ad inp pm S steps cp ep vw vo := by
  refine M.tr (ch := fun _ => False) (Tr.of_ext e (fun b hb => (M.rep.new b hb).2) M.rep.ext.next) ?_ ?_ ?_ ?_ ?_ ?_ <;> simp
theorem Rep.ex {st : List PV} {Y : Sty} (M : Rep Y h0 h K ad st) (e : Ext h h') : Tr h0 K h ad K h' ad (fun _ => False) := Tr.of_ext e (fun b hb => (M.new b hb).2) M.ext.next
end
theorem find_ctr (h : Heap) (K : Ks) (ad : List Pa) (n : Int) (p : V) (L : En) (H : EnvR h K ad p L) (hn : n ∈ L.map Prod.fst) : Ctr Tryz.prog 149 [p, .int .i64 n] h fun x h' => x = ptrA ad (seek L n) ∧ h' = h ∧ seek L n < ad.length := by
  refine c149_ctr rfl (wpK_of ?_)
  unfold c149
  simp +contextual only [↓wA, wC, Ex.ends, evR, oneOf, top, ↓reduceIte, Nat.reduceEqDiff, Nat.reduceLeDiff, Nat.reduceAdd, Nat.reduceSub, Nat.reduceMul, reduceCtorEq, Int.reduceEq, Int.reduceLT, Int.reduceLE, Int.reduceNeg]
  refine loopK_intro (fun r h' => h' = h ∧ r 1 = .int .i64 n ∧ ∃ M, EnvR h K ad (r 0) M ∧ n ∈ M.map Prod.fst ∧ seek M n = seek L n) (fun r h' => elen h K ad (r 0)) ?_ ?_
  · exact ⟨rfl, by simp only [↓wA, wC, ↓reduceIte, Nat.reduceEqDiff, reduceCtorEq], L, by simpa only [↓wA, wC, ↓reduceIte, Nat.reduceEqDiff, reduceCtorEq] using H, hn, rfl⟩
  · rintro r h' ⟨rfl, r1, M, HM, hM, hs⟩
    unfold c149l1
    generalize hq : r 0 = q at *
    have hl := HM.elen
    cases HM with
    | nil => simp at hM
    | @cons b m j p' L' hK hg hj hr =>
      have hl' := hr.elen
      by_cases e : m = n
      · subst e
        simp +contextual only [r1, hq, hg, ↓wA, wC, Ex.ends, evR, oneOf, top, ↓reduceIte, Nat.reduceEqDiff, Nat.reduceLeDiff, Nat.reduceAdd, Nat.reduceSub, Nat.reduceMul, reduceCtorEq, Int.reduceEq, Int.reduceLT, Int.reduceLE, Int.reduceNeg]
        simp only [seek, if_true] at hs
        rw [← hs]
        exact ⟨rfl, hj⟩
      · have e' := eq_false e
        simp +contextual only [r1, hq, hg, e', ↓wA, wC, Ex.ends, evR, oneOf, top, ↓reduceIte, Nat.reduceEqDiff, Nat.reduceLeDiff, Nat.reduceAdd, Nat.reduceSub, Nat.reduceMul, reduceCtorEq, Int.reduceEq, Int.reduceLT, Int.reduceLE, Int.reduceNeg]
        simp only [seek, if_neg e] at hs
        simp only [List.map_cons, List.mem_cons] at hM
        refine ⟨⟨L', hr, ?_, hs⟩, ?_⟩
        · rcases hM with hM | hM
          · exact absurd hM.symm e
          · exact hM
        · rw [hl, hl', List.length_cons]; omega
def Fresh (h h' : Heap) (x : V) (cs : List V) : Prop := ∃ b, x = .ptr b 0 ∧ Ext h h' ∧ h.next ≤ unPa b ∧ Old h' b ∧ h'.get b = .ofL cs 0 false
theorem fresh_new (h : Heap) (cs : List V) : Fresh h (h.new (.ofL cs 0 false)) (.ptr (pa h.next) 0) cs :=
  ⟨_, rfl, (Ext.refl h).new _, by rw [unPa_pa]; exact Nat.le_refl _, old_self, get_new_self _⟩
theorem with_ctr (h : Heap) (p v : V) (n : Int) (hp : p.one = true ∧ p.cells = [p] ∧ p.good = true) (hv : v.one = true ∧ v.cells = [v] ∧ v.good = true) : Ctr Tryz.prog 152 [p, .int .i64 n, v] h fun x h' => Fresh h h' x [.int .i64 n, v, p] := by
  refine c152_ctr rfl (wpK_of ?_)
  unfold c152
  simp +contextual only [hp.1, hp.2.1, hp.2.2, hv.1, hv.2.1, hv.2.2, ↓wA, wC, Ex.ends, evR, oneOf, top, ↓reduceIte, Nat.reduceEqDiff, Nat.reduceLeDiff, Nat.reduceAdd, Nat.reduceSub, Nat.reduceMul, reduceCtorEq, Int.reduceEq, Int.reduceLT, Int.reduceLE, Int.reduceNeg]
  exact fresh_new _ _
theorem num_ctr (h : Heap) (n : Int) : Ctr Tryz.prog 79 [.int .i64 n] h fun x h' => Fresh h h' x [.int .i64 1, .int .i64 n, .str [], .nilslice, .nilptr, .nilptr, .bool false] := by
  refine c79_ctr rfl (wpK_of ?_)
  unfold c79
  simp +contextual only [↓wA, wC, Ex.ends, evR, oneOf, top, ↓reduceIte, Nat.reduceEqDiff, Nat.reduceLeDiff, Nat.reduceAdd, Nat.reduceSub, Nat.reduceMul, reduceCtorEq, Int.reduceEq, Int.reduceLT, Int.reduceLE, Int.reduceNeg]
  exact fresh_new _ _
theorem thing_ctr (h : Heap) (n : Int) (v : V) (hv : v.one = true ∧ v.cells = [v] ∧ v.good = true) : Ctr Tryz.prog 102 [.int .i64 n, v] h fun x h' => Fresh h h' x [.int .i64 4, .int .i64 n, .str [], v, .nilptr, .nilptr, .bool false] := by
  refine c102_ctr rfl (wpK_of ?_)
  unfold c102
  simp +contextual only [hv.1, hv.2.1, hv.2.2, ↓wA, wC, Ex.ends, evR, oneOf, top, ↓reduceIte, Nat.reduceEqDiff, Nat.reduceLeDiff, Nat.reduceAdd, Nat.reduceSub, Nat.reduceMul, reduceCtorEq, Int.reduceEq, Int.reduceLT, Int.reduceLE, Int.reduceNeg]
  exact fresh_new _ _
theorem text_ctr (h : Heap) (s : List UInt8) : Ctr Tryz.prog 148 [.str s] h fun x h' => Fresh h h' x [.int .i64 2, .int .i64 0, .str s, .nilslice, .nilptr, .nilptr, .bool false] := by
  refine c148_ctr rfl (wpK_of ?_)
  unfold c148
  simp +contextual only [↓wA, wC, Ex.ends, evR, oneOf, top, ↓reduceIte, Nat.reduceEqDiff, Nat.reduceLeDiff, Nat.reduceAdd, Nat.reduceSub, Nat.reduceMul, reduceCtorEq, Int.reduceEq, Int.reduceLT, Int.reduceLE, Int.reduceNeg]
  exact fresh_new _ _
theorem truth_ctr (h : Heap) (b : Bool) : Ctr Tryz.prog 84 [.bool b] h fun x h' => Fresh h h' x [.int .i64 4, .int .i64 (if b = true then 1 else 0), .str [], .nilslice, .nilptr, .nilptr, .bool false] := by
  refine c84_ctr rfl (wpK_of ?_)
  unfold c84
  cases b with
  | true =>
    simp +contextual only [↓wA, wC, Ex.ends, evR, oneOf, top, ↓reduceIte, Nat.reduceEqDiff, Nat.reduceLeDiff, Nat.reduceAdd, Nat.reduceSub, Nat.reduceMul, reduceCtorEq, Int.reduceEq, Int.reduceLT, Int.reduceLE, Int.reduceNeg]
    refine callK_intro (thing_ctr h 1 .nilslice ⟨rfl, rfl, rfl⟩) ?_
    rintro x h1 H
    simp +contextual only [↓wA, wC, Ex.ends, evR, oneOf, top, ↓reduceIte, Nat.reduceEqDiff, Nat.reduceLeDiff, Nat.reduceAdd, Nat.reduceSub, Nat.reduceMul, reduceCtorEq, Int.reduceEq, Int.reduceLT, Int.reduceLE, Int.reduceNeg]
    exact H
  | false =>
    simp +contextual only [↓wA, wC, Ex.ends, evR, oneOf, top, ↓reduceIte, Nat.reduceEqDiff, Nat.reduceLeDiff, Nat.reduceAdd, Nat.reduceSub, Nat.reduceMul, reduceCtorEq, Int.reduceEq, Int.reduceLT, Int.reduceLE, Int.reduceNeg]
    refine callK_intro (thing_ctr h 0 .nilslice ⟨rfl, rfl, rfl⟩) ?_
    rintro x h1 H
    simp +contextual only [↓wA, wC, Ex.ends, evR, oneOf, top, ↓reduceIte, Nat.reduceEqDiff, Nat.reduceLeDiff, Nat.reduceAdd, Nat.reduceSub, Nat.reduceMul, reduceCtorEq, Int.reduceEq, Int.reduceLT, Int.reduceLE, Int.reduceNeg]
    exact H
theorem shl1 {P : Program} (n : Int) : BK.shl.run P (.int .i64 n) (.int .u64 1) = some (.int .i64 (IntKind.i64.wrap (n * 2))) := by rfl
theorem shr1 {P : Program} (n : Int) : BK.shr.run P (.int .i64 n) (.int .u64 1) = some (.int .i64 (n.fdiv 2)) := by rfl
theorem wrap_two (n : Int) : (IntKind.i32.wrap (n * 2)).fdiv 2 = wr n := by
  rw [Int.fdiv_eq_ediv_of_nonneg _ (by decide)]
  unfold wr
  have : IntKind.i32.wrap (n * 2) = if n * 2 % 4294967296 ≥ 2147483648 then n * 2 % 4294967296 - 4294967296 else n * 2 % 4294967296 := by simp [IntKind.wrap, IntKind.bits, IntKind.signed]
  rw [this]
  split <;> omega
theorem i32_in (n : Int) : -9223372036854775808 ≤ IntKind.i32.wrap n ∧ IntKind.i32.wrap n ≤ 9223372036854775807 := by
  have : IntKind.i32.wrap n = if n % 4294967296 ≥ 2147483648 then n % 4294967296 - 4294967296 else n % 4294967296 := by simp [IntKind.wrap, IntKind.bits, IntKind.signed]
  rw [this]
  split <;> omega
theorem wrap_pure (n : Int) (h : Heap) (hn : -2305843009213693952 ≤ n ∧ n ≤ 2305843009213693952) : CallsV Tryz.prog 80 [.int .i64 n] h (.int .i64 (wr n)) h := by
  refine pure_calls (c80_ctr rfl (wpK_of ?_))
  unfold c80
  have w1 : IntKind.i64.wrap (n * 2) = n * 2 := wrap_i64 (by omega) (by omega)
  have w2 : IntKind.i64.wrap (IntKind.i32.wrap (n * 2)) = IntKind.i32.wrap (n * 2) := wrap_i64 (i32_in _).1 (i32_in _).2
  simp +contextual only [shl1, shr1, w1, w2, wrap_two, ↓wA, wC, Ex.ends, evR, oneOf, top, ↓reduceIte, Nat.reduceEqDiff, Nat.reduceLeDiff, Nat.reduceAdd, Nat.reduceSub, Nat.reduceMul, reduceCtorEq, Int.reduceEq, Int.reduceLT, Int.reduceLE, Int.reduceNeg]
section
variable {h0 h : Heap} {mb : Pa} {K : Ks} {ad : List Pa} {inp pm : V} {S : St} {steps : Int}
theorem ends_ctr (M : PM h0 h mb K ad inp pm S steps) (how : Int) : Ctr Tryz.prog 103 [.ptr mb 0, .int .i64 how] h fun x h' => PM h0 h' mb K ad inp pm (S.ends how) steps := by
  obtain ⟨cp, ep, vw, vo, M⟩ := M
  have M1 := M.next { S with over := true } steps cp ep vw vo rfl M.co M.er M.wr M.ou
  have M2 := M1.next (S.ends how) steps cp ep vw vo rfl M1.co M1.er M1.wr M1.ou
  have g := M.get
  have g1 := M1.get
  refine c103_ctr rfl (wpK_of ?_)
  unfold c103
  have oc := M.co.one
  simp +contextual only [g, g1, ↓wA, wC, Ex.ends, evR, oneOf, top, ↓reduceIte, Nat.reduceEqDiff, Nat.reduceLeDiff, Nat.reduceAdd, Nat.reduceSub, Nat.reduceMul, reduceCtorEq, Int.reduceEq, Int.reduceLT, Int.reduceLE, Int.reduceNeg]
  exact ⟨_, _, _, _, M2⟩
end
end Go.Proofs.YtjbiefneffiogaaGreat

namespace Go.Proofs.YtjbiefneffiogaaGreat
open Go Am
section
variable {Y : Sty} {h0 h h' : Heap} {K K' : Ks} {ad ad' : List Pa} {ch : Ro → Prop}
theorem Tr.of_tmp {b : Pa} {k : Blk} (hb : K b = .no) (hlo : h0.next ≤ unPa b) : Tr h0 K h ad K (h.set b k) ad (fun _ => False) := by
  refine ⟨Nat.le_refl _, fun _ _ => rfl, fun _ h h' => absurd h h', fun c hc _ => ?_, fun c hc => ?_, [], by simp⟩
  · rw [get_set, if_neg]
    rintro rfl
    exact hc hb
  · rw [get_set, if_neg]
    rintro rfl
    omega
theorem Rep.tmp {st : List PV} (M : Rep Y h0 h K ad st) {b : Pa} (hb : h.next ≤ unPa b) : K b = .no := by
  by_cases q : K b = .no
  · exact q
  · have := M.new b q; omega
theorem WtsR.pop {a : Wt} {w : List Wt} {vw : V} (hs : 1 ≤ Y.wsz) (H : WtsR Y h0 h K ad (a :: w) vw) : ∃ u p b off vw', u.length = Y.wsz ∧ ones u = true ∧ Y.WR h0 a p u ∧ EnvR h K ad p a.e ∧ K b = .wts ∧ Old h b ∧
    iaV Y.wsz vw (.int .i64 w.length) = some (.ptr b off) ∧ (∀ h' : Heap, h'.get b = h.get b → ldnB Y.wsz (h'.get b) off = some (.agg u)) ∧
    sliceV Y.wsz vw none (some (.int .i64 w.length)) none = some vw' ∧ WtsR Y h0 h K ad w vw' := by
  obtain ⟨us, q1, q2, q3, q4⟩ := H
  rw [List.length_cons] at q1 q3
  have hlt : w.length < us.length := by omega
  have hu := List.getElem?_eq_getElem hlt
  have hr : (a :: w).reverse[w.length]? = some a := by rw [List.reverse_cons, List.getElem?_append_right (by simp)]; simp
  obtain ⟨a1, a2, p, a3, a4⟩ := q4 _ _ _ hr hu
  have hall : ∀ u ∈ us, u.length = Y.wsz := by
    intro u hu
    obtain ⟨i, hi⟩ := List.getElem?_of_mem hu
    have hil : i < us.length := (List.getElem?_eq_some_iff.1 hi).1
    have hil2 : i < (a :: w).reverse.length := by rw [List.length_reverse, List.length_cons]; omega
    exact (q4 i _ u (List.getElem?_eq_getElem hil2) hi).1
  have hsplit : us = us.take w.length ++ [us[w.length]] := by
    conv => lhs; rw [← List.take_append_drop w.length us]
    rw [List.drop_eq_getElem_cons hlt, List.drop_eq_nil_of_le (by omega)]
  have hfl : us.flatten = (us.take w.length).flatten ++ us[w.length] := by
    conv => lhs; rw [hsplit]
    rw [List.flatten_append, List.flatten_singleton]
  have htl : (us.take w.length).flatten.length = w.length * Y.wsz := by
    have hall' : ∀ u ∈ us.take w.length, u.length = Y.wsz := fun u hu => hall u (List.mem_of_mem_take hu)
    have := flatten_len Y.wsz (us.take w.length) hall'
    rw [this, List.length_take, Nat.min_eq_left (by omega)]
  obtain ⟨b, off, e1, e2, e3⟩ := q1.v.ia' (k := .i64) (i := w.length) (by omega)
  obtain ⟨vw', c1, c2, c3⟩ := q1.cut (k := .i64) (m := w.length) (by omega) (by omega)
  refine ⟨us[w.length], p, b, _, vw', a1, a2, a3, a4, q2 b e3, e2.1, e1, fun h' e => ?_, c1, us.take w.length, ?_, fun b hb => q2 b (c3 b hb), ?_, ?_⟩
  · have hld := e2.ldn (i := w.length * Y.wsz) (n := Y.wsz) (by rw [hfl, List.length_append, htl, a1]; exact Nat.le_refl _)
    rw [e, hld, hfl, List.drop_left' htl, List.take_of_length_le (by omega)]
  · rw [hfl, List.take_left' htl] at c2
    exact c2
  · rw [List.length_take]; omega
  · intro i c u r1 r2
    rw [List.getElem?_take] at r2
    split at r2
    · rename_i hi
      refine q4 i c u ?_ r2
      rw [List.reverse_cons, List.getElem?_append_left (by rw [List.length_reverse]; omega)]
      exact r1
    · cases r2
end
section
variable {h0 h h' : Heap} {mb : Pa} {K : Ks} {ad : List Pa} {inp pm : V} {S : St} {steps : Int} {cp ep vw vo : V}
theorem PMach.tmp (M : PMach h0 h mb K ad inp pm S steps cp ep vw vo) {b : Pa} {k : Blk} (hb : K b = .no) (hlo : h0.next ≤ unPa b) : PMach h0 (h.set b k) mb K ad inp pm S steps cp ep vw vo := by
  refine M.tr (Tr.of_tmp hb hlo) ?_ ?_ ?_ ?_ ?_ ?_ <;> simp
theorem EnvR.tmp {p : V} {L : En} (H : EnvR h K ad p L) {b : Pa} {k : Blk} (hb : K b = .no) : EnvR (h.set b k) K ad p L :=
  H.tr (Tr.of_tmp (h0 := Heap.empty) hb (Nat.zero_le _)) (by simp)
theorem EnvR.set {p : V} {L : En} (H : EnvR h K ad p L) {b : Pa} {k : Blk} {r : Ro} (hb : K b = r) (hr : r ≠ .env) : EnvR (h.set b k) K ad p L :=
  H.tr (Tr.of_set (h0 := Heap.empty) (ch := fun q => q = r) hb (Nat.zero_le _)) (fun q => hr q.symm)
theorem EnvR.ext {p : V} {L : En} {st : List PV} {Y : Sty} (H : EnvR h K ad p L) (M : Rep Y h0 h K ad st) (e : Ext h h') : EnvR h' K ad p L := H.tr (M.ex e) (by simp)
theorem pop_nil (M : PM h0 h mb K ad inp pm S steps) (hw : S.w = []) : Ctr Tryz.prog 150 [.ptr mb 0] h fun x h' => x = .tuple [.agg [.bool false, .int .i64 0, .nilptr, .nilptr], .bool false] ∧ PM h0 h' mb K ad inp pm S steps := by
  obtain ⟨cp, ep, vw, vo, M⟩ := M
  have g := M.get
  have hl := M.wr.len
  rw [hw, List.length_nil] at hl
  have z0 : (((0 : Nat) : Int) = 0) = True := eq_true rfl
  have hold : Old h mb := M.old.2
  have nm : (pa h.next = mb) = False := old_ne hold (Nat.le_refl _)
  refine c150_ctr rfl (wpK_of ?_)
  unfold c150
  simp +contextual only [g, hl, nm, z0, ↓wA, wC, Ex.ends, evR, oneOf, top, ↓reduceIte, Nat.reduceEqDiff, Nat.reduceLeDiff, Nat.reduceAdd, Nat.reduceSub, Nat.reduceMul, reduceCtorEq, Int.reduceEq, Int.reduceLT, Int.reduceLE, Int.reduceNeg]
  refine ⟨_, _, _, _, (M.ext ((Ext.refl h).new _)).tr (Tr.of_tmp (M.rep.tmp ?_) ?_) ?_ ?_ ?_ ?_ ?_ ?_⟩ <;> simp [unPa_pa]
  exact M.rep.ext.next
theorem pop_cons (M : PM h0 h mb K ad inp pm S steps) (hB : S.w.length ≤ 4294967296) {a : Wt} {w : List Wt} (hw : S.w = a :: w) : Ctr Tryz.prog 150 [.ptr mb 0] h fun x h' => ∃ q p, x = .tuple [.agg [.bool a.try_, .int .i64 a.x, q, p], .bool true] ∧ PM h0 h' mb K ad inp pm { S with w := w } steps ∧ CoAt h0 q a.c ∧ EnvR h' K ad p a.e := by
  obtain ⟨cp, ep, vw, vo, M⟩ := M
  have g := M.get
  have hl := M.wr.len
  have W := M.wr
  rw [hw] at hl W
  have hold : Old h mb := M.old.2
  have nm : (pa h.next = mb) = False := old_ne hold (Nat.le_refl _)
  have mn : (mb = pa h.next) = False := new_ne hold (Nat.le_refl _)
  have nm1 : (pa (h.next + 1) = mb) = False := old_ne hold (by omega)
  have mn1 : (mb = pa (h.next + 1)) = False := new_ne hold (by omega)
  obtain ⟨u, p, b, off, vw', a1, a2, ⟨q, a3, rfl⟩, a4, a5, a6, a7, a8, a9, a10⟩ := W.pop (by decide)
  have nb : (pa h.next = b) = False := old_ne a6 (Nat.le_refl _)
  have oq := a3.one
  have op := a4.one
  have ow := a10.one
  have l0 : (((w.length + 1 : Nat) : Int) = 0) = False := eq_false (by omega)
  rw [List.length_cons] at hl
  rw [hw, List.length_cons] at hB
  have w1 : IntKind.i64.wrap (((w.length + 1 : Nat) : Int) - 1) = (w.length : Int) := by rw [wrap_i64 (by omega) (by omega)]; omega
  refine c150_ctr rfl (wpK_of ?_)
  unfold c150
  have a7' : iaV 4 vw (.int .i64 w.length) = some (.ptr b off) := a7
  have a9' : sliceV 4 vw none (some (.int .i64 w.length)) none = some vw' := a9
  have ld : ldnB 4 (h.get b) off = some (.agg [.bool a.try_, .int .i64 a.x, q, p]) := a8 h rfl
  simp +contextual only [g, hl, nm, mn, nm1, mn1, l0, w1, a7', a9', nb, ld, oq.1, oq.2.1, op.1, op.2.1, ow.1, ow.2.1, ↓wA, wC, Ex.ends, evR, oneOf, top, ↓reduceIte, Nat.reduceEqDiff, Nat.reduceLeDiff, Nat.reduceAdd, Nat.reduceSub, Nat.reduceMul, reduceCtorEq, Int.reduceEq, Int.reduceLT, Int.reduceLE, Int.reduceNeg]
  have e1 : Ext h (((h.new (Blk.ofL [V.bool false, V.int IntKind.i64 0, V.nilptr, V.nilptr] 0 false)).new (Blk.ofL [V.bool false, V.int IntKind.i64 0, V.nilptr, V.nilptr] 0 false)).set (pa (h.next + 1)) (Blk.ofL [V.bool a.try_, V.int IntKind.i64 a.x, q, p] 0 false)) := (((Ext.refl h).new _).new _).set (by omega) _
  have M3 := M.ext e1
  have M4 := M3.next { S with w := w } steps cp ep vw' vo rfl M3.co M3.er (a10.tr (M.rep.ex e1) (by simp) (by simp)) M3.ou
  have hno : K (pa h.next) = .no := M.rep.tmp (by rw [unPa_pa]; exact Nat.le_refl _)
  exact ⟨q, p, rfl, ⟨_, _, _, _, M4.tmp hno (by rw [unPa_pa]; exact M.rep.ext.next)⟩, a3, ((a4.ext M.rep e1).set M.km (by simp)).tmp hno⟩
theorem Rep.role {Y : Sty} {st : List PV} (M : Rep Y h0 h K ad st) (e : Ext h h') (p : Pa → Prop) (r : Ro) (t : List Pa) (hp : ∀ b, p b → h.next ≤ unPa b ∧ Old h' b) : Tr h0 K h ad (Kp K p r) h' (ad ++ t) (fun _ => False) := by
  refine ⟨e.next, fun b hb => ?_, fun b hb hb' => ?_, fun b hb _ => e.get b (M.new b hb).2, fun b hb => e.get b (Nat.lt_of_lt_of_le hb M.ext.next), t, rfl⟩
  · refine Kp_no fun q => hb (M.tmp (hp b q).1)
  · by_cases q : p b
    · exact hp b q
    · rw [Kp_no q] at hb'; exact absurd hb hb'
theorem PMach.env (M : PMach h0 h mb K ad inp pm S steps cp ep vw vo) (e : Ext h h') {b : Pa} (hb : h.next ≤ unPa b) (ho : Old h' b) {x : Int} {j : Nat} {p : V} {L : En} (hg : h'.get b = .ofL [.int .i64 x, ptrA ad j, p] 0 false) (hp : EnvR h K ad p L) (hj : j < ad.length) :
    ∃ K', PMach h0 h' mb K' ad inp pm S steps cp ep vw vo ∧ EnvR h' K' ad (.ptr b 0) ((x, j) :: L) ∧ Tr h0 K h ad K' h' ad (fun _ => False) := by
  have t := M.rep.role e (fun q => q = b) .env [] (fun q hq => by subst hq; exact ⟨hb, ho⟩)
  rw [List.append_nil] at t
  refine ⟨Kp K (fun q => q = b) .env, ?_, .cons (Kp_yes rfl) hg hj (hp.tr t id), t⟩
  refine M.tr t ?_ ?_ ?_ ?_ ?_ ?_ <;> simp
theorem goes_ctr (M : PM h0 h mb K ad inp pm S steps) {a : Wt} {q p : V} {j : Nat} (hq : CoAt h0 q a.c) (hp : EnvR h K ad p a.e) (hj : j < ad.length) : Ctr Tryz.prog 151 [.ptr mb 0, .agg [.bool a.try_, .int .i64 a.x, q, p], ptrA ad j] h fun x h' => ∃ K', PM h0 h' mb K' ad inp pm { S with c := a.c, e := (a.x, j) :: a.e } steps := by
  obtain ⟨cp, ep, vw, vo, M⟩ := M
  have g := M.get
  have hold : Old h mb := M.old.2
  have nm : (pa h.next = mb) = False := old_ne hold (Nat.le_refl _)
  have mn : (mb = pa h.next) = False := new_ne hold (Nat.le_refl _)
  have oq := hq.one
  have op := hp.one
  have e0 : Ext h (h.new (.ofL [.bool a.try_, .int .i64 a.x, q, p] 0 false)) := (Ext.refl h).new _
  have gb : (h.new (.ofL [.bool a.try_, .int .i64 a.x, q, p] 0 false)).get (pa h.next) = .ofL [.bool a.try_, .int .i64 a.x, q, p] 0 false := get_new_self _
  refine c151_ctr rfl (wpK_of ?_)
  unfold c151
  simp +contextual only [g, nm, mn, oq.1, oq.2.1, op.1, op.2.1, ↓wA, wC, Ex.ends, evR, oneOf, top, ↓reduceIte, Nat.reduceEqDiff, Nat.reduceLeDiff, Nat.reduceAdd, Nat.reduceSub, Nat.reduceMul, reduceCtorEq, Int.reduceEq, Int.reduceLT, Int.reduceLE, Int.reduceNeg]
  refine callK_intro (with_ctr _ p (ptrA ad j) a.x op ⟨rfl, rfl, rfl⟩) ?_
  rintro x h1 ⟨b, rfl, e1, b1, b2, b3⟩
  have gb1 : h1.get (pa h.next) = .ofL [.bool a.try_, .int .i64 a.x, q, p] 0 false := by rw [e1.get _ old_self]; exact gb
  have g1 : h1.get mb = _ := (e1.get _ (e0.old hold)).trans ((e0.get _ hold).trans g)
  simp +contextual only [g, g1, gb, gb1, nm, mn, oq.1, oq.2.1, op.1, op.2.1, ↓wA, wC, Ex.ends, evR, oneOf, top, ↓reduceIte, Nat.reduceEqDiff, Nat.reduceLeDiff, Nat.reduceAdd, Nat.reduceSub, Nat.reduceMul, reduceCtorEq, Int.reduceEq, Int.reduceLT, Int.reduceLE, Int.reduceNeg]
  have e2 : Ext h h1 := e0.trans e1
  obtain ⟨K', M1, E1, t⟩ := M.env e2 (b := b) (by have := e0.next; omega) b2 b3 hp hj
  have M2 := M1.next { S with c := a.c } steps q ep vw vo rfl hq M1.er M1.wr M1.ou
  have M3 := M2.next { S with c := a.c, e := (a.x, j) :: a.e } steps q (.ptr b 0) vw vo rfl hq (E1.set M1.km (by simp)) M2.wr M2.ou
  exact ⟨K', _, _, _, _, M3⟩
noncomputable def wlen (h : Heap) (mb : Pa) : Nat := match ld1B (h.get mb) 9 with
  | some v => match lenSl v with
    | some (.int _ n) => n.toNat
    | _ => 0
  | none => 0
theorem PMach.wlen (M : PMach h0 h mb K ad inp pm S steps cp ep vw vo) : wlen h mb = S.w.length := by
  unfold Go.Proofs.YtjbiefneffiogaaGreat.wlen
  rw [M.get, ld1_ofL]
  simp only [List.getElem?_cons_succ, List.getElem?_cons_zero, M.wr.len, Int.toNat_natCast]
set_option maxHeartbeats 1000000 in
theorem tells_ctr (M : PM h0 h mb K ad inp pm S steps) (hB : S.w.length ≤ 4294967296) {j : Nat} (hj : j < ad.length) : Ctr Tryz.prog 101 [.ptr mb 0, ptrA ad j] h fun x h' => ∃ K', PM h0 h' mb K' ad inp pm (S.tells j) steps := by
  refine c101_ctr rfl (wpK_of ?_)
  unfold c101
  simp +contextual only [↓wA, wC, Ex.ends, evR, oneOf, top, ↓reduceIte, Nat.reduceEqDiff, Nat.reduceLeDiff, Nat.reduceAdd, Nat.reduceSub, Nat.reduceMul, reduceCtorEq, Int.reduceEq, Int.reduceLT, Int.reduceLE, Int.reduceNeg]
  refine loopK_intro (fun r h' => r 0 = .ptr mb 0 ∧ r 1 = ptrA ad j ∧ ∃ w, PM h0 h' mb K ad inp pm { S with w := w } steps ∧ w.length ≤ 4294967296 ∧ S.tellsL j w = S.tells j) (fun r h' => Go.Proofs.YtjbiefneffiogaaGreat.wlen h' mb) ?_ ?_
  · exact ⟨by simp only [↓wA, wC, ↓reduceIte, Nat.reduceEqDiff, reduceCtorEq], by simp only [↓wA, wC, ↓reduceIte, Nat.reduceEqDiff, reduceCtorEq], S.w, M, hB, rfl⟩
  · rintro r h' ⟨r0, r1, w, M, hB, hs⟩
    unfold c101l1
    obtain ⟨_, _, _, _, M0⟩ := M
    have hw0 := M0.wlen
    cases w with
    | nil =>
      simp +contextual only [r0, r1, ↓wA, wC, Ex.ends, evR, oneOf, top, ↓reduceIte, Nat.reduceEqDiff, Nat.reduceLeDiff, Nat.reduceAdd, Nat.reduceSub, Nat.reduceMul, reduceCtorEq, Int.reduceEq, Int.reduceLT, Int.reduceLE, Int.reduceNeg]
      refine callK_intro (pop_nil ⟨_, _, _, _, M0⟩ rfl) ?_
      rintro x h1 ⟨rfl, M1⟩
      obtain ⟨_, _, _, _, M1⟩ := M1
      have g1 := M1.get
      have hold : Old h1 mb := M1.old.2
      have nm : (pa h1.next = mb) = False := old_ne hold (Nat.le_refl _)
      have mn : (mb = pa h1.next) = False := new_ne hold (Nat.le_refl _)
      have M2 := (M1.ext ((Ext.refl h1).new (.ofL [.bool false, .int .i64 0, .nilptr, .nilptr] 0 false))).tmp (b := pa h1.next) (k := .ofL [.bool false, .int .i64 0, .nilptr, .nilptr] 0 false) (M1.rep.tmp (by rw [unPa_pa]; exact Nat.le_refl _)) (by rw [unPa_pa]; exact M1.rep.ext.next)
      simp +contextual only [r0, r1, nm, mn, ↓wA, wC, Ex.ends, evR, oneOf, top, ↓reduceIte, Nat.reduceEqDiff, Nat.reduceLeDiff, Nat.reduceAdd, Nat.reduceSub, Nat.reduceMul, reduceCtorEq, Int.reduceEq, Int.reduceLT, Int.reduceLE, Int.reduceNeg]
      refine callK_intro (ends_ctr ⟨_, _, _, _, M2⟩ 0) ?_
      rintro x h2 M3
      simp +contextual only [r0, r1, ↓wA, wC, Ex.ends, evR, oneOf, top, ↓reduceIte, Nat.reduceEqDiff, Nat.reduceLeDiff, Nat.reduceAdd, Nat.reduceSub, Nat.reduceMul, reduceCtorEq, Int.reduceEq, Int.reduceLT, Int.reduceLE, Int.reduceNeg]
      rw [← hs]
      exact ⟨K, M3⟩
    | cons a w =>
      simp +contextual only [r0, r1, ↓wA, wC, Ex.ends, evR, oneOf, top, ↓reduceIte, Nat.reduceEqDiff, Nat.reduceLeDiff, Nat.reduceAdd, Nat.reduceSub, Nat.reduceMul, reduceCtorEq, Int.reduceEq, Int.reduceLT, Int.reduceLE, Int.reduceNeg]
      refine callK_intro (pop_cons ⟨_, _, _, _, M0⟩ hB rfl) ?_
      rintro x h1 ⟨q, p, rfl, M1, hq, hp⟩
      obtain ⟨_, _, _, _, M1⟩ := M1
      have g1 := M1.get
      have hold : Old h1 mb := M1.old.2
      have nm : (pa h1.next = mb) = False := old_ne hold (Nat.le_refl _)
      have mn : (mb = pa h1.next) = False := new_ne hold (Nat.le_refl _)
      have oq := hq.one
      have op := hp.one
      have hno : K (pa h1.next) = .no := M1.rep.tmp (by rw [unPa_pa]; exact Nat.le_refl _)
      have e1 : Ext h1 (h1.new (.ofL [.bool false, .int .i64 0, .nilptr, .nilptr] 0 false)) := (Ext.refl h1).new _
      have M2 := (M1.ext e1).tmp (b := pa h1.next) (k := .ofL [.bool a.try_, .int .i64 a.x, q, p] 0 false) hno (by rw [unPa_pa]; exact M1.rep.ext.next)
      have hp2 : EnvR ((h1.new (.ofL [.bool false, .int .i64 0, .nilptr, .nilptr] 0 false)).set (pa h1.next) (.ofL [.bool a.try_, .int .i64 a.x, q, p] 0 false)) K ad p a.e := (hp.ext M1.rep e1).tmp hno
      cases ha : a.try_ with
      | false =>
        rw [ha] at M2 hp2
        simp +contextual only [r0, r1, nm, mn, ha, oq.1, oq.2.1, op.1, op.2.1, ↓wA, wC, Ex.ends, evR, oneOf, top, ↓reduceIte, Nat.reduceEqDiff, Nat.reduceLeDiff, Nat.reduceAdd, Nat.reduceSub, Nat.reduceMul, reduceCtorEq, Int.reduceEq, Int.reduceLT, Int.reduceLE, Int.reduceNeg]
        have G := goes_ctr ⟨_, _, _, _, M2⟩ hq hp2 hj
        rw [ha] at G
        refine callK_intro G ?_
        rintro x h2 ⟨K', M3⟩
        simp +contextual only [r0, r1, ↓wA, wC, Ex.ends, evR, oneOf, top, ↓reduceIte, Nat.reduceEqDiff, Nat.reduceLeDiff, Nat.reduceAdd, Nat.reduceSub, Nat.reduceMul, reduceCtorEq, Int.reduceEq, Int.reduceLT, Int.reduceLE, Int.reduceNeg]
        rw [← hs]
        simp only [St.tellsL, ha]
        exact ⟨K', M3⟩
      | true =>
        rw [ha] at M2 hp2
        simp +contextual only [r0, r1, nm, mn, ha, oq.1, oq.2.1, op.1, op.2.1, ↓wA, wC, Ex.ends, evR, oneOf, top, ↓reduceIte, Nat.reduceEqDiff, Nat.reduceLeDiff, Nat.reduceAdd, Nat.reduceSub, Nat.reduceMul, reduceCtorEq, Int.reduceEq, Int.reduceLT, Int.reduceLE, Int.reduceNeg]
        simp only [List.length_cons] at hB hw0
        refine ⟨⟨w, ⟨_, _, _, _, M2⟩, by omega, ?_⟩, ?_⟩
        · rw [← hs]; simp only [St.tellsL, ha, if_true]
        · rw [hw0, M2.wlen]; simp only; omega
end
end Go.Proofs.YtjbiefneffiogaaGreat

namespace Go.Proofs.YtjbiefneffiogaaGreat
open Go Am
def kindV : PV → Int
  | .int _ => 1
  | .text _ => 2
  | .fn _ _ _ => 3
  | .thing _ _ => 4
def numV : PV → Int
  | .int n => n
  | .text _ => 0
  | .fn x _ _ => x
  | .thing t _ => t
def strV : PV → List UInt8
  | .text s => s
  | _ => []
section
variable {h0 h h' : Heap} {mb : Pa} {K : Ks} {ad : List Pa} {inp pm : V} {S : St} {steps : Int} {cp ep vw vo : V}
theorem St.val_get {S : St} {j : Nat} (hj : j < S.st.length) : S.st[j]? = some (S.val j) := by
  unfold St.val
  rw [List.getD_eq_getElem?_getD, List.getElem?_eq_getElem hj]; rfl
theorem PMach.val (M : PMach h0 h mb K ad inp pm S steps cp ep vw vo) {j : Nat} (hj : j < ad.length) : ∃ fl bp kp, h.get (blkOf ad j) = .ofL [.int .i64 (kindV (S.val j)), .int .i64 (numV (S.val j)), .str (strV (S.val j)), fl, bp, kp, .bool false] 0 false ∧ K (blkOf ad j) = .val j ∧
    FldR h0 h K ad j (S.val j) fl ∧ ∀ x c e, S.val j = .fn x c e → CoAt h0 bp c ∧ EnvR h K ad kp e := by
  have hjs : j < S.st.length := by rw [← M.rep.len]; exact hj
  obtain ⟨k, fl, ep, cs, g, v, f, e⟩ := M.rep.val j _ (St.val_get hjs)
  generalize hv : S.val j = V0 at *
  cases V0 with
  | int n => cases v; exact ⟨_, _, _, g, k, trivial, fun _ _ _ q => by cases q⟩
  | text s => cases v; exact ⟨_, _, _, g, k, trivial, fun _ _ _ q => by cases q⟩
  | fn x c L => obtain ⟨cp', q1, rfl⟩ := v; exact ⟨_, _, _, g, k, trivial, fun _ _ _ q => by cases q; exact ⟨q1, e⟩⟩
  | thing t fs => cases v; exact ⟨_, _, _, g, k, f, fun _ _ _ q => by cases q⟩
theorem PMach.at_old (M : PMach h0 h mb K ad inp pm S steps cp ep vw vo) {j : Nat} (hj : j < ad.length) : Old h (blkOf ad j) ∧ blkOf ad j ≠ mb := by
  obtain ⟨_, _, _, _, k, _⟩ := M.val hj
  refine ⟨(M.rep.new _ (by rw [k]; simp)).2, fun q => ?_⟩
  have := M.km
  rw [← q, k] at this
  cases this
set_option maxHeartbeats 1000000 in
theorem raises_ctr (M : PM h0 h mb K ad inp pm S steps) (hB : S.w.length ≤ 4294967296) {j : Nat} (hj : j < ad.length) : Ctr Tryz.prog 108 [.ptr mb 0, ptrA ad j] h fun x h' => ∃ K', PM h0 h' mb K' ad inp pm (S.raises j) steps := by
  refine c108_ctr rfl (wpK_of ?_)
  unfold c108
  simp +contextual only [↓wA, wC, Ex.ends, evR, oneOf, top, ↓reduceIte, Nat.reduceEqDiff, Nat.reduceLeDiff, Nat.reduceAdd, Nat.reduceSub, Nat.reduceMul, reduceCtorEq, Int.reduceEq, Int.reduceLT, Int.reduceLE, Int.reduceNeg]
  refine loopK_intro (fun r h' => r 0 = .ptr mb 0 ∧ r 1 = ptrA ad j ∧ ∃ w, PM h0 h' mb K ad inp pm { S with w := w } steps ∧ w.length ≤ 4294967296 ∧ S.raisesL j w = S.raises j) (fun r h' => Go.Proofs.YtjbiefneffiogaaGreat.wlen h' mb) ?_ ?_
  · exact ⟨by simp only [↓wA, wC, ↓reduceIte, Nat.reduceEqDiff, reduceCtorEq], by simp only [↓wA, wC, ↓reduceIte, Nat.reduceEqDiff, reduceCtorEq], S.w, M, hB, rfl⟩
  · rintro r h' ⟨r0, r1, w, M, hB, hs⟩
    unfold c108l1
    obtain ⟨_, _, _, _, M0⟩ := M
    have hw0 := M0.wlen
    cases w with
    | nil =>
      simp +contextual only [r0, r1, ↓wA, wC, Ex.ends, evR, oneOf, top, ↓reduceIte, Nat.reduceEqDiff, Nat.reduceLeDiff, Nat.reduceAdd, Nat.reduceSub, Nat.reduceMul, reduceCtorEq, Int.reduceEq, Int.reduceLT, Int.reduceLE, Int.reduceNeg]
      refine callK_intro (pop_nil ⟨_, _, _, _, M0⟩ rfl) ?_
      rintro x h1 ⟨rfl, M1⟩
      obtain ⟨_, _, _, _, M1⟩ := M1
      have g1 := M1.get
      have hold : Old h1 mb := M1.old.2
      have nm : (pa h1.next = mb) = False := old_ne hold (Nat.le_refl _)
      have mn : (mb = pa h1.next) = False := new_ne hold (Nat.le_refl _)
      have M2 := (M1.ext ((Ext.refl h1).new (.ofL [.bool false, .int .i64 0, .nilptr, .nilptr] 0 false))).tmp (b := pa h1.next) (k := .ofL [.bool false, .int .i64 0, .nilptr, .nilptr] 0 false) (M1.rep.tmp (by rw [unPa_pa]; exact Nat.le_refl _)) (by rw [unPa_pa]; exact M1.rep.ext.next)
      obtain ⟨fl, bp, kp, gv, kv, _, _⟩ := M1.val hj
      have jn : (pa h1.next = blkOf ad j) = False := old_ne (M1.at_old hj).1 (Nat.le_refl _)
      have hval : St.val { S with w := [] } j = S.val j := rfl
      rw [hval] at gv
      have hp : ptrA ad j = .ptr (blkOf ad j) 0 := rfl
      rw [hp] at r1
      by_cases h4 : kindV (S.val j) = 4
      · have h4' := eq_true h4
        simp +contextual only [r0, r1, nm, mn, gv, jn, h4', h4, ↓wA, wC, Ex.ends, evR, oneOf, top, ↓reduceIte, Nat.reduceEqDiff, Nat.reduceLeDiff, Nat.reduceAdd, Nat.reduceSub, Nat.reduceMul, reduceCtorEq, Int.reduceEq, Int.reduceLT, Int.reduceLE, Int.reduceNeg]
        refine callK_intro (ends_ctr ⟨_, _, _, _, M2⟩ 1) ?_
        rintro x h2 ⟨_, _, _, _, M3⟩
        have g3 := M3.get
        obtain ⟨_, _, _, gv3, _⟩ := M3.val hj
        have hval3 : St.val (St.ends { S with w := [] } 1) j = S.val j := rfl
        rw [hval3] at gv3
        simp +contextual only [r0, r1, g3, gv3, ↓wA, wC, Ex.ends, evR, oneOf, top, ↓reduceIte, Nat.reduceEqDiff, Nat.reduceLeDiff, Nat.reduceAdd, Nat.reduceSub, Nat.reduceMul, reduceCtorEq, Int.reduceEq, Int.reduceLT, Int.reduceLE, Int.reduceNeg]
        rw [← hs]
        cases hv : S.val j with
        | thing t fs =>
          simp only [St.raisesL, hv]
          have M4 := M3.next { St.ends { S with w := [] } 1 with exn := t } steps _ _ _ _ rfl M3.co M3.er M3.wr M3.ou
          exact ⟨K, _, _, _, _, M4⟩
        | int n => rw [hv] at h4; cases h4
        | text n => rw [hv] at h4; cases h4
        | fn _ _ _ => rw [hv] at h4; cases h4
      · have h4' := eq_false h4
        simp +contextual only [r0, r1, nm, mn, gv, jn, h4', ↓wA, wC, Ex.ends, evR, oneOf, top, ↓reduceIte, Nat.reduceEqDiff, Nat.reduceLeDiff, Nat.reduceAdd, Nat.reduceSub, Nat.reduceMul, reduceCtorEq, Int.reduceEq, Int.reduceLT, Int.reduceLE, Int.reduceNeg]
        refine callK_intro (ends_ctr ⟨_, _, _, _, M2⟩ 6) ?_
        rintro x h2 M3
        simp +contextual only [r0, r1, ↓wA, wC, Ex.ends, evR, oneOf, top, ↓reduceIte, Nat.reduceEqDiff, Nat.reduceLeDiff, Nat.reduceAdd, Nat.reduceSub, Nat.reduceMul, reduceCtorEq, Int.reduceEq, Int.reduceLT, Int.reduceLE, Int.reduceNeg]
        rw [← hs]
        cases hv : S.val j with
        | thing t fs => rw [hv] at h4; exact absurd rfl h4
        | int n => simp only [St.raisesL, hv]; exact ⟨K, M3⟩
        | text n => simp only [St.raisesL, hv]; exact ⟨K, M3⟩
        | fn _ _ _ => simp only [St.raisesL, hv]; exact ⟨K, M3⟩
    | cons a w =>
      simp +contextual only [r0, r1, ↓wA, wC, Ex.ends, evR, oneOf, top, ↓reduceIte, Nat.reduceEqDiff, Nat.reduceLeDiff, Nat.reduceAdd, Nat.reduceSub, Nat.reduceMul, reduceCtorEq, Int.reduceEq, Int.reduceLT, Int.reduceLE, Int.reduceNeg]
      refine callK_intro (pop_cons ⟨_, _, _, _, M0⟩ hB rfl) ?_
      rintro x h1 ⟨q, p, rfl, M1, hq, hp⟩
      obtain ⟨_, _, _, _, M1⟩ := M1
      have g1 := M1.get
      have hold : Old h1 mb := M1.old.2
      have nm : (pa h1.next = mb) = False := old_ne hold (Nat.le_refl _)
      have mn : (mb = pa h1.next) = False := new_ne hold (Nat.le_refl _)
      have oq := hq.one
      have op := hp.one
      have hno : K (pa h1.next) = .no := M1.rep.tmp (by rw [unPa_pa]; exact Nat.le_refl _)
      have e1 : Ext h1 (h1.new (.ofL [.bool false, .int .i64 0, .nilptr, .nilptr] 0 false)) := (Ext.refl h1).new _
      have M2 := (M1.ext e1).tmp (b := pa h1.next) (k := .ofL [.bool a.try_, .int .i64 a.x, q, p] 0 false) hno (by rw [unPa_pa]; exact M1.rep.ext.next)
      have hp2 : EnvR ((h1.new (.ofL [.bool false, .int .i64 0, .nilptr, .nilptr] 0 false)).set (pa h1.next) (.ofL [.bool a.try_, .int .i64 a.x, q, p] 0 false)) K ad p a.e := (hp.ext M1.rep e1).tmp hno
      cases ha : a.try_ with
      | true =>
        rw [ha] at M2 hp2
        simp +contextual only [r0, r1, nm, mn, ha, oq.1, oq.2.1, op.1, op.2.1, ↓wA, wC, Ex.ends, evR, oneOf, top, ↓reduceIte, Nat.reduceEqDiff, Nat.reduceLeDiff, Nat.reduceAdd, Nat.reduceSub, Nat.reduceMul, reduceCtorEq, Int.reduceEq, Int.reduceLT, Int.reduceLE, Int.reduceNeg]
        have G := goes_ctr ⟨_, _, _, _, M2⟩ hq hp2 hj
        rw [ha] at G
        refine callK_intro G ?_
        rintro x h2 ⟨K', M3⟩
        simp +contextual only [r0, r1, ↓wA, wC, Ex.ends, evR, oneOf, top, ↓reduceIte, Nat.reduceEqDiff, Nat.reduceLeDiff, Nat.reduceAdd, Nat.reduceSub, Nat.reduceMul, reduceCtorEq, Int.reduceEq, Int.reduceLT, Int.reduceLE, Int.reduceNeg]
        rw [← hs]
        simp only [St.raisesL, ha]
        exact ⟨K', M3⟩
      | false =>
        rw [ha] at M2 hp2
        simp +contextual only [r0, r1, nm, mn, ha, oq.1, oq.2.1, op.1, op.2.1, ↓wA, wC, Ex.ends, evR, oneOf, top, ↓reduceIte, Nat.reduceEqDiff, Nat.reduceLeDiff, Nat.reduceAdd, Nat.reduceSub, Nat.reduceMul, reduceCtorEq, Int.reduceEq, Int.reduceLT, Int.reduceLE, Int.reduceNeg]
        simp only [List.length_cons] at hB hw0
        refine ⟨⟨w, ⟨_, _, _, _, M2⟩, by omega, ?_⟩, ?_⟩
        · rw [← hs]; simp only [St.raisesL, ha]; rfl
        · rw [hw0, M2.wlen]; simp only; omega
end
end Go.Proofs.YtjbiefneffiogaaGreat

namespace Go.Proofs.YtjbiefneffiogaaGreat
open Go Am
def kindsB (S : St) : List Nat → List Int → Bool
  | _, [] => true
  | [], _ :: _ => false
  | j :: js, k :: ks => decide (kindV (S.val j) = k) && kindsB S js ks
def plainC : PV → Option (List V)
  | .int n => some [.int .i64 1, .int .i64 n, .str [], .nilslice, .nilptr, .nilptr, .bool false]
  | .text s => some [.int .i64 2, .int .i64 0, .str s, .nilslice, .nilptr, .nilptr, .bool false]
  | .thing t [] => some [.int .i64 4, .int .i64 t, .str [], .nilslice, .nilptr, .nilptr, .bool false]
  | _ => none
def ArgsR (h : Heap) (ad : List Pa) (js : List Nat) (vl : V) : Prop := SlV h 1 vl js.length (js.map (ptrA ad)) ∧ ∀ j ∈ js, j < ad.length
theorem ArgsR.ext {h h' : Heap} {ad : List Pa} {js : List Nat} {vl : V} (H : ArgsR h ad js vl) (e : Ext h h') : ArgsR h' ad js vl := ⟨H.1.ext e, H.2⟩
theorem ArgsR.at {h : Heap} {ad : List Pa} {js : List Nat} {vl : V} (H : ArgsR h ad js vl) {k : IntKind} {i : Nat} (hi : i < js.length) : ∃ b o, iaV 1 vl (.int k i) = some (.ptr b o) ∧ (∀ h', Ext h h' → ld1B (h'.get b) o = some (ptrA ad (js.getD i 0))) ∧ js.getD i 0 < ad.length := by
  obtain ⟨b, o, e1, e2⟩ := H.1.ia (k := k) hi
  refine ⟨b, _, e1, fun h' e => ?_, ?_⟩
  · rw [Nat.mul_one, (e2.ext e).ld1 (by rw [List.length_map]; exact hi)]
    simp [List.getD_eq_getElem?_getD, List.getElem?_eq_getElem hi]
  · rw [List.getD_eq_getElem?_getD, List.getElem?_eq_getElem hi]; exact H.2 _ (List.getElem_mem hi)
structure Ok (S : St) : Prop where
  ints : ∀ j n, S.val j = .int n → -1073741824 ≤ n ∧ n ≤ 1073741823
  texts : ∀ j s, S.val j = .text s → s.length ≤ 4096
  w : S.w.length ≤ 4294967296
  out : S.out.length ≤ 8589934592
section
variable {h0 h h' : Heap} {mb : Pa} {K : Ks} {ad : List Pa} {inp pm : V} {S : St} {steps : Int} {cp ep vw vo : V}
theorem kinds_ctr (M : PM h0 h mb K ad inp pm S steps) {js : List Nat} {vl : V} (A : ArgsR h ad js vl) {ks : List Int} {vk : V} (Hk : SlV h 1 vk ks.length (intsV ks)) (hl : ks.length ≤ js.length) (hs : ks.length ≤ 1000) :
    Ctr Tryz.prog 146 [.ptr mb 0, vl, vk] h fun x h' => x = .bool (kindsB S js ks) ∧ (kindsB S js ks = true → h' = h) ∧ (kindsB S js ks = false → PM h0 h' mb K ad inp pm S.trap steps) := by
  refine c146_ctr rfl (wpK_of ?_)
  unfold c146
  simp +contextual only [Hk.len, ↓wA, wC, Ex.ends, evR, oneOf, top, ↓reduceIte, Nat.reduceEqDiff, Nat.reduceLeDiff, Nat.reduceAdd, Nat.reduceSub, Nat.reduceMul, reduceCtorEq, Int.reduceEq, Int.reduceLT, Int.reduceLE, Int.reduceNeg]
  refine loopK_intro (fun r h' => h' = h ∧ r 0 = .ptr mb 0 ∧ r 1 = vl ∧ r 9 = vk ∧ r 10 = .int .i64 ks.length ∧ ∃ i : Nat, r 11 = .int .i64 i ∧ i ≤ ks.length ∧ kindsB S js ks = kindsB S (js.drop i) (ks.drop i)) (fun r h' => ks.length - (r 11).toN) ?_ ?_
  · exact ⟨rfl, by simp only [↓wA, wC, ↓reduceIte, Nat.reduceEqDiff, reduceCtorEq], by simp only [↓wA, wC, ↓reduceIte, Nat.reduceEqDiff, reduceCtorEq], by simp only [↓wA, wC, ↓reduceIte, Nat.reduceEqDiff, reduceCtorEq], by simp only [↓wA, wC, ↓reduceIte, Nat.reduceEqDiff, reduceCtorEq], 0, by simp only [↓wA, wC, ↓reduceIte, Nat.reduceEqDiff, reduceCtorEq] <;> rfl, by omega, rfl⟩
  · rintro r h' ⟨rfl, r0, r1, r9, r10, i, r11, hi, hok⟩
    unfold c146l1
    by_cases hlt : i < ks.length
    · have g0 : ((i : Int) < (ks.length : Int)) = True := eq_true (by omega)
      obtain ⟨b1, o1, ia1, ld1, hj⟩ := A.at (k := .i64) (i := i) (by omega)
      obtain ⟨b2, o2, ia2, ld2⟩ := ints_at Hk (k := .i64) hlt
      have ldj := ld1 h' (Ext.refl _)
      have M0 := M
      obtain ⟨_, _, _, _, M⟩ := M
      obtain ⟨fl, bp, kp, gv, _⟩ := M.val hj
      have hp : ptrA ad (js.getD i 0) = .ptr (blkOf ad (js.getD i 0)) 0 := rfl
      rw [hp] at ldj
      rw [List.drop_eq_getElem_cons hlt, List.drop_eq_getElem_cons (show i < js.length by omega)] at hok
      simp only [kindsB] at hok
      have hji : js[i] = js.getD i 0 := by rw [List.getD_eq_getElem?_getD, List.getElem?_eq_getElem (by omega)]; rfl
      rw [hji] at hok
      have w := w_inc hlt (by omega)
      by_cases hk : kindV (S.val (js.getD i 0)) = ks[i]
      · have hk' := eq_true hk
        simp +contextual only [r0, r1, r9, r10, r11, g0, ia1, ia2, ld2, ldj, gv, hk', w, ↓wA, wC, Ex.ends, evR, oneOf, top, ↓reduceIte, Nat.reduceEqDiff, Nat.reduceLeDiff, Nat.reduceAdd, Nat.reduceSub, Nat.reduceMul, reduceCtorEq, Int.reduceEq, Int.reduceLT, Int.reduceLE, Int.reduceNeg]
        rw [decide_eq_true hk, Bool.true_and] at hok
        exact ⟨⟨i + 1, rfl, hlt, hok⟩, by omega⟩
      · have hk' := eq_false hk
        simp +contextual only [r0, r1, r9, r10, r11, g0, ia1, ia2, ld2, ldj, gv, hk', w, ↓wA, wC, Ex.ends, evR, oneOf, top, ↓reduceIte, Nat.reduceEqDiff, Nat.reduceLeDiff, Nat.reduceAdd, Nat.reduceSub, Nat.reduceMul, reduceCtorEq, Int.reduceEq, Int.reduceLT, Int.reduceLE, Int.reduceNeg]
        refine callK_intro (ends_ctr M0 6) ?_
        rintro x h2 M3
        simp +contextual only [r0, r1, ↓wA, wC, Ex.ends, evR, oneOf, top, ↓reduceIte, Nat.reduceEqDiff, Nat.reduceLeDiff, Nat.reduceAdd, Nat.reduceSub, Nat.reduceMul, reduceCtorEq, Int.reduceEq, Int.reduceLT, Int.reduceLE, Int.reduceNeg]
        rw [decide_eq_false hk, Bool.false_and] at hok
        rw [hok]
        exact ⟨rfl, (by intro q; cases q), fun _ => M3⟩
    · have g0 : ((i : Int) < (ks.length : Int)) = False := eq_false (by omega)
      simp +contextual only [r0, r1, r9, r10, r11, g0, ↓wA, wC, Ex.ends, evR, oneOf, top, ↓reduceIte, Nat.reduceEqDiff, Nat.reduceLeDiff, Nat.reduceAdd, Nat.reduceSub, Nat.reduceMul, reduceCtorEq, Int.reduceEq, Int.reduceLT, Int.reduceLE, Int.reduceNeg]
      rw [List.drop_eq_nil_of_le (show ks.length ≤ i by omega)] at hok
      have : kindsB S js ks = true := by rw [hok]; cases js.drop i <;> rfl
      rw [this]
      exact ⟨rfl, fun _ => trivial, (by intro q; cases q)⟩
theorem PMach.make (M : PMach h0 h mb K ad inp pm S steps cp ep vw vo) {x : V} {cs : List V} (F : Fresh h h' x cs) {v : PV} (hv : plainC v = some cs) :
    ∃ K' ad', PMach h0 h' mb K' ad' inp pm (S.mk_ v) steps cp ep vw vo ∧ x = ptrA ad' S.st.length ∧ S.st.length < ad'.length ∧ Tr h0 K h ad K' h' ad' (fun _ => False) := by
  obtain ⟨b, rfl, e, hb, ho, hg⟩ := F
  have t := M.rep.role e (fun q => q = b) (.val S.st.length) [b] (fun q hq => by subst hq; exact ⟨hb, ho⟩)
  have hbl : blkOf (ad ++ [b]) S.st.length = b := by
    unfold blkOf
    rw [List.getD_eq_getElem?_getD, List.getElem?_append_right (by rw [M.rep.len]; exact Nat.le_refl _), M.rep.len, Nat.sub_self]
    rfl
  have hR : Rep PY h0 h' (Kp K (fun q => q = b) (.val S.st.length)) (ad ++ [b]) (S.mk_ v).st := by
    refine M.rep.push t (by simp) (by simp) (by simp) ?_
    refine ⟨by rw [hbl]; exact Kp_yes rfl, .nilslice, .nilptr, cs, by rw [hbl]; exact hg, ?_, ?_, ?_⟩
    · cases v with
      | int n => simp only [plainC, Option.some.injEq] at hv; exact hv.symm
      | text n => simp only [plainC, Option.some.injEq] at hv; exact hv.symm
      | fn _ _ _ => cases hv
      | thing t fs => cases fs <;> simp only [plainC, Option.some.injEq, reduceCtorEq] at hv; exact hv.symm
    · cases v <;> first | trivial | skip
      rename_i t fs
      cases fs <;> simp only [plainC, Option.some.injEq, reduceCtorEq] at hv
      exact ⟨⟨rfl, rfl⟩, fun b q => q.elim, fun j q => by cases q⟩
    · cases v <;> first | trivial | cases hv
  have hm : K mb ≠ .no := by rw [M.km]; simp
  have E := M.er.tr t id
  have W := M.wr.tr t id id
  have O := M.ou.tr t id
  refine ⟨_, _, ⟨hR, by rw [t.role mb hm, M.km], by rw [t.get mb hm id, M.get]; rfl, M.co, E, W, O⟩, by unfold ptrA; rw [hbl], by rw [List.length_append, M.rep.len]; simp, t⟩
theorem Ok.mk_ (H : Ok S) {v : PV} (h1 : ∀ n, v = .int n → -1073741824 ≤ n ∧ n ≤ 1073741823) (h2 : ∀ s, v = .text s → s.length ≤ 4096) : Ok (S.mk_ v) := by
  have key : ∀ j, (S.mk_ v).val j = S.val j ∨ (S.mk_ v).val j = v := by
    intro j
    simp only [St.val, St.mk_, List.getD_eq_getElem?_getD]
    by_cases q : j < S.st.length
    · rw [List.getElem?_append_left q]; exact .inl rfl
    · by_cases q2 : j = S.st.length
      · subst q2; right; simp
      · left; rw [List.getElem?_eq_none (by simp; omega), List.getElem?_eq_none (by omega)]
  refine ⟨fun j n q => ?_, fun j s q => ?_, H.w, H.out⟩
  · rcases key j with k | k
    · exact H.ints j n (k ▸ q)
    · exact h1 n (k ▸ q)
  · rcases key j with k | k
    · exact H.texts j s (k ▸ q)
    · exact h2 s (k ▸ q)
end
end Go.Proofs.YtjbiefneffiogaaGreat

namespace Go.Proofs.YtjbiefneffiogaaGreat
open Go Am
theorem ints_new (h : Heap) (l : List Int) : SlV (h.new (.ofL (intsV l) 0 false)) 1 (.slice (pa h.next) 0 l.length l.length) l.length (intsV l) := by
  refine ⟨by rw [intsV_len, Nat.mul_one], rfl, old_lt (by rw [next_new]; omega), intsV l, .inr ⟨0, false, by rw [get_new_self]⟩, by omega, by simp⟩
theorem kind_int {v : PV} (h : kindV v = 1) : ∃ n, v = .int n := by cases v <;> simp only [kindV] at h <;> first | exact ⟨_, rfl⟩ | omega
theorem kind_text {v : PV} (h : kindV v = 2) : ∃ n, v = .text n := by cases v <;> simp only [kindV] at h <;> first | exact ⟨_, rfl⟩ | omega
theorem kind_thing {v : PV} (h : kindV v = 4) : ∃ t l, v = .thing t l := by cases v <;> simp only [kindV] at h <;> first | exact ⟨_, _, rfl⟩ | omega
def rng (a : Int) : Prop := -1073741824 ≤ a ∧ a ≤ 1073741823
theorem num2_no {S : St} {j0 j1 : Nat} {k : Int → Int → St} (h : kindsB S [j0, j1] [1, 1] = false) : S.num2 [j0, j1] k = S.trap := by
  simp only [kindsB, Bool.and_true] at h
  simp only [St.num2, List.getD_cons_zero, List.getD_cons_succ]
  cases h0 : S.val j0 <;> cases h1 : S.val j1 <;> first | rfl | (rw [h0, h1] at h; simp [kindV] at h)
theorem num1_no {S : St} {j0 : Nat} {k : Int → St} (h : kindsB S [j0] [1] = false) : S.num1 [j0] k = S.trap := by
  simp only [kindsB, Bool.and_true] at h
  simp only [St.num1, List.getD_cons_zero]
  cases h0 : S.val j0 <;> first | rfl | (rw [h0] at h; simp [kindV] at h)
theorem text1_no {S : St} {j0 : Nat} {k : List UInt8 → St} (h : kindsB S [j0] [2] = false) : S.text1 [j0] k = S.trap := by
  simp only [kindsB, Bool.and_true] at h
  simp only [St.text1, List.getD_cons_zero]
  cases h0 : S.val j0 <;> first | rfl | (rw [h0] at h; simp [kindV] at h)
theorem wrap_u8 (n : Int) : IntKind.u8.wrap n = ((St.byteOf n).toNat : Int) := by
  have : IntKind.u8.wrap n = n % 256 := by simp [IntKind.wrap, IntKind.bits, IntKind.signed]
  rw [this]
  unfold St.byteOf
  simp only [UInt8.toNat_ofNat']
  omega
theorem ask_cvi {P : Program} {d : Option Nat} {k : IntKind} {x : RX} {rs : List Nat} {e : EntF} {H : Heap} : askK P ⟨d, .cv (.int k) x, none, rs⟩ e H = (cvI k (x.ev (e.r.trim rs)) = some e.v) := ask_pure rfl
theorem conv_new_ (l : List UInt8) (h : Heap) (hl : l.length ≤ top) : convStr.run (.slice (pa h.next) 0 l.length l.length) (h.new (.ofL (bytesV l) 0 false)) = .val (.str l) (h.new (.ofL (bytesV l) 0 false)) :=
  convStr_own (B := 0) ⟨by rw [bytesV_len, Nat.mul_one], rfl, Nat.zero_le _, old_lt (by rw [next_new]; omega), Nat.le_refl _, hl, _, 0, false, get_new_self _, by rw [bytesV_len]; omega, by simp⟩
section
variable {h0 h h' : Heap} {mb : Pa} {K : Ks} {ad : List Pa} {inp pm : V} {S : St} {steps : Int} {cp ep vw vo : V}
theorem PMach.arg (M : PMach h0 h mb K ad inp pm S steps cp ep vw vo) {js : List Nat} {vl : V} (A : ArgsR h ad js vl) (n : Int) (i j : Nat) (hn : n = i) (hj : js[i]? = some j) :
    j < ad.length ∧ ∃ b o fl bp kp, iaV 1 vl (.int .i64 n) = some (.ptr b o) ∧ FldR h0 h K ad j (S.val j) fl ∧ ∀ h', Ext h h' → ld1B (h'.get b) o = some (.ptr (blkOf ad j) 0) ∧ h'.get (blkOf ad j) = .ofL [.int .i64 (kindV (S.val j)), .int .i64 (numV (S.val j)), .str (strV (S.val j)), fl, bp, kp, .bool false] 0 false := by
  subst hn
  have hi : i < js.length := (List.getElem?_eq_some_iff.1 hj).1
  have hd : js.getD i 0 = j := by rw [List.getD_eq_getElem?_getD, hj]; rfl
  obtain ⟨b, o, e1, e2, e3⟩ := A.at (k := .i64) hi
  rw [hd] at e2 e3
  obtain ⟨fl, bp, kp, g, _, q, _⟩ := M.val e3
  refine ⟨e3, b, o, fl, bp, kp, e1, q, fun h' e => ⟨e2 h' e, ?_⟩⟩
  rw [e.get _ (M.at_old e3).1, g]
theorem PMach.lay {K' : Ks} {ad' : List Pa} {S' : St} {steps' : Int} {cp' ep' vw' vo' : V} (R : Rep PY h0 h' K' ad' S'.st) (km : K' mb = .mach) (hco : CoAt h0 cp' S'.c) (her : EnvR h' K' ad' ep' S'.e) (hwr : WtsR PY h0 h' K' ad' S'.w vw') (hor : OutR h0 h' K' S'.out vo') :
    PMach h0 (h'.set mb (.ofL [inp, .int .i64 S'.en, .int .i64 S'.exn, .int .i64 S'.read, .int .i64 steps', vo', .bool S'.over, cp', ep', vw', .nilslice, pm] 0 false)) mb K' ad' inp pm S' steps' cp' ep' vw' vo' := by
  have hn := R.new mb (by rw [km]; simp)
  have t : Tr h0 K' h' ad' K' (h'.set mb (.ofL [inp, .int .i64 S'.en, .int .i64 S'.exn, .int .i64 S'.read, .int .i64 steps', vo', .bool S'.over, cp', ep', vw', .nilslice, pm] 0 false)) ad' (· = .mach) := Tr.of_set km hn.1
  exact ⟨R.tr t (by simp) (by simp) (by simp), km, by rw [get_set, if_pos rfl], hco, her.tr t (by simp), hwr.tr t (by simp) (by simp), hor.tr t (by simp)⟩
theorem PMach.wrote (M : PMach h0 h mb K ad inp pm S steps cp ep vw vo) {v : V} {out : List UInt8} (hO : SlO h0.next h' 1 v out.length (bytesV out)) (hm : Mod vo.blk h h') (hb : ∀ b, v.blk b → vo.blk b ∨ h.next ≤ unPa b) :
    ∃ K', PMach h0 (h'.set mb (.ofL [inp, .int .i64 S.en, .int .i64 S.exn, .int .i64 S.read, .int .i64 steps, v, .bool S.over, cp, ep, vw, .nilslice, pm] 0 false)) mb K' ad inp pm { S with out := out } steps cp ep vw v := by
  have t : Tr h0 K h ad (Kp K (fun b => v.blk b ∧ h.next ≤ unPa b) .out) h' ad (· = .out) := by
    refine ⟨hm.next, fun b hb' => ?_, fun b hb' hb2 => ?_, fun b hb' hc => ?_, fun b hb' => ?_, [], by simp⟩
    · exact Kp_no fun q => hb' (M.rep.tmp q.2)
    · by_cases q : v.blk b ∧ h.next ≤ unPa b
      · exact ⟨q.2, hO.v.old q.1⟩
      · rw [Kp_no q] at hb2; exact absurd hb' hb2
    · exact hm.get b (M.rep.new b hb').2 fun q => hc (M.ou.2 b q)
    · refine hm.get b (Nat.lt_of_lt_of_le hb' M.rep.ext.next) fun q => ?_
      have := M.ou.1.base q
      omega
  have hmb : K mb ≠ .no := by rw [M.km]; simp
  refine ⟨_, PMach.lay (S' := { S with out := out }) (M.rep.tr t (by simp) (by simp) (by simp)) (by rw [t.role mb hmb, M.km]) M.co (M.er.tr t (by simp)) (M.wr.tr t (by simp) (by simp)) ⟨hO, fun b q => ?_⟩⟩
  rcases hb b q with r | r
  · have := M.ou.2 b r
    rw [t.role b (by rw [this]; simp), this]
  · exact Kp_yes ⟨q, r⟩
theorem PMach.get_wrote (M : PMach h0 h mb K ad inp pm S steps cp ep vw vo) (hm : Mod vo.blk h h') : h'.get mb = h.get mb := by
  refine hm.get mb M.old.2 fun q => ?_
  have := M.ou.2 mb q
  rw [M.km] at this
  cases this
theorem PMach.sees (M : PMach h0 h mb K ad inp pm S steps cp ep vw vo) (hm : Mod vo.blk h h') {b : Pa} (hb : Old h b) (hk : K b ≠ .out) : h'.get b = h.get b :=
  hm.get b hb fun q => hk (M.ou.2 b q)
set_option maxHeartbeats 1000000 in
theorem two_ctr (M : PM h0 h mb K ad inp pm S steps) (O : Ok S) {j0 j1 : Nat} {vl : V} (A : ArgsR h ad [j0, j1] vl) {bx : Pa} {f : FuncId} (g : Int → Int → PV) (hbx : h0.get bx = .ofL [.func f []] 0 false) (hbo : Old h0 bx)
    (hg : ∀ a b h, rng a → rng b → ∃ cs, plainC (g a b) = some cs ∧ Ctr Tryz.prog f [.int .i64 a, .int .i64 b] h fun x h' => Fresh h h' x cs) :
    Ctr Tryz.prog 145 [.ptr mb 0, vl, .ptr bx 0] h fun x h' => ∃ K' ad', PM h0 h' mb K' ad' inp pm (S.num2 [j0, j1] fun a b => S.tellsV (g a b)) steps := by
  obtain ⟨_, _, _, _, M⟩ := M
  have e1 : Ext h (h.new (.ofL [.int .i64 1, .int .i64 1] 0 false)) := (Ext.refl h).new _
  have Hk : SlV (h.new (.ofL [.int .i64 1, .int .i64 1] 0 false)) 1 (.slice (pa h.next) 0 2 2) 2 (intsV [1, 1]) := ints_new h [1, 1]
  have M1 := M.ext e1
  have A1 := A.ext e1
  refine c145_ctr rfl (wpK_of ?_)
  unfold c145
  simp +contextual only [↓wA, wC, Ex.ends, evR, oneOf, top, ↓reduceIte, Nat.reduceEqDiff, Nat.reduceLeDiff, Nat.reduceAdd, Nat.reduceSub, Nat.reduceMul, reduceCtorEq, Int.reduceEq, Int.reduceLT, Int.reduceLE, Int.reduceNeg]
  refine callK_intro (kinds_ctr ⟨_, _, _, _, M1⟩ A1 (ks := [1, 1]) Hk (Nat.le_refl _) (by decide)) ?_
  rintro x h2 ⟨rfl, k1, k2⟩
  cases hk : kindsB S [j0, j1] [1, 1] with
  | false =>
    simp +contextual only [↓wA, wC, Ex.ends, evR, oneOf, top, ↓reduceIte, Nat.reduceEqDiff, Nat.reduceLeDiff, Nat.reduceAdd, Nat.reduceSub, Nat.reduceMul, reduceCtorEq, Int.reduceEq, Int.reduceLT, Int.reduceLE, Int.reduceNeg]
    rw [num2_no hk]
    exact ⟨_, _, k2 hk⟩
  | true =>
    obtain rfl := k1 hk
    clear k1 k2 Hk
    generalize h.new (.ofL [.int .i64 1, .int .i64 1] 0 false) = H1 at *
    simp only [kindsB, Bool.and_true, Bool.and_eq_true, decide_eq_true_eq] at hk
    have E := M1.rep.ext
    obtain ⟨a0, ha0⟩ := kind_int hk.1
    obtain ⟨hj0, b0, o0, fl0, _, _, ia0, _, ld0⟩ := M1.arg A1 0 0 j0 rfl rfl
    rw [ha0] at ld0
    simp only [kindV, numV, strV] at ld0
    have l0 := ld0 _ (Ext.refl _)
    obtain ⟨a1, ha1⟩ := kind_int hk.2
    obtain ⟨hj1, b1, o1, fl1, _, _, ia1, _, ld1⟩ := M1.arg A1 1 1 j1 rfl rfl
    rw [ha1] at ld1
    simp only [kindV, numV, strV] at ld1
    have l1 := ld1 _ (Ext.refl _)
    have gx : H1.get bx = .ofL [.func f []] 0 false := (E.get _ hbo).trans hbx
    obtain ⟨cs, hcs, C⟩ := hg a0 a1 H1 (O.ints _ _ ha0) (O.ints _ _ ha1)
    simp +contextual only [gx, ia0, ia1, l0.1, l1.1, l0.2, l1.2, ↓wA, wC, Ex.ends, evR, oneOf, top, ↓reduceIte, Nat.reduceEqDiff, Nat.reduceLeDiff, Nat.reduceAdd, Nat.reduceSub, Nat.reduceMul, reduceCtorEq, Int.reduceEq, Int.reduceLT, Int.reduceLE, Int.reduceNeg]
    refine callK_intro C ?_
    rintro x h3 F
    obtain ⟨K', ad', M3, rfl, hn, t⟩ := M1.make F hcs
    obtain ⟨_, _, e3, _⟩ := F
    have l0' := ld0 _ e3
    have l1' := ld1 _ e3
    have gx' := (e3.get _ (E.old hbo)).trans gx
    simp +contextual only [gx, ia0, ia1, l0.1, l1.1, l0.2, l1.2, gx', l0'.1, l1'.1, l0'.2, l1'.2, ↓wA, wC, Ex.ends, evR, oneOf, top, ↓reduceIte, Nat.reduceEqDiff, Nat.reduceLeDiff, Nat.reduceAdd, Nat.reduceSub, Nat.reduceMul, reduceCtorEq, Int.reduceEq, Int.reduceLT, Int.reduceLE, Int.reduceNeg]
    refine callK_intro (tells_ctr ⟨_, _, _, _, M3⟩ O.w hn) ?_
    rintro x h4 ⟨K4, M4⟩
    simp +contextual only [gx, ia0, ia1, l0.1, l1.1, l0.2, l1.2, gx', l0'.1, l1'.1, l0'.2, l1'.2, ↓wA, wC, Ex.ends, evR, oneOf, top, ↓reduceIte, Nat.reduceEqDiff, Nat.reduceLeDiff, Nat.reduceAdd, Nat.reduceSub, Nat.reduceMul, reduceCtorEq, Int.reduceEq, Int.reduceLT, Int.reduceLE, Int.reduceNeg]
    refine ⟨K4, ad', ?_⟩
    simp only [St.num2, List.getD_cons_zero, List.getD_cons_succ, ha0, ha1]
    exact M4
set_option maxHeartbeats 1000000 in
theorem divides_ctr (M : PM h0 h mb K ad inp pm S steps) (O : Ok S) {j0 j1 : Nat} {vl : V} (A : ArgsR h ad [j0, j1] vl) {bx : Pa} {f : FuncId} (g : Int → Int → Int) (hbx : h0.get bx = .ofL [.func f []] 0 false) (hbo : Old h0 bx)
    (hg : ∀ a b h, rng a → rng b → b ≠ 0 → CallsV Tryz.prog f [.int .i64 a, .int .i64 b] h (.int .i64 (g a b)) h ∧ -2305843009213693952 ≤ g a b ∧ g a b ≤ 2305843009213693952) :
    Ctr Tryz.prog 147 [.ptr mb 0, vl, .ptr bx 0] h fun x h' => ∃ K' ad', PM h0 h' mb K' ad' inp pm (S.num2 [j0, j1] fun a b => if b = 0 then S.raisesV (.thing 1 []) else S.tellsV (.int (wr (g a b)))) steps := by
  obtain ⟨_, _, _, _, M⟩ := M
  have e1 : Ext h (h.new (.ofL [.int .i64 1, .int .i64 1] 0 false)) := (Ext.refl h).new _
  have Hk : SlV (h.new (.ofL [.int .i64 1, .int .i64 1] 0 false)) 1 (.slice (pa h.next) 0 2 2) 2 (intsV [1, 1]) := ints_new h [1, 1]
  have M1 := M.ext e1
  have A1 := A.ext e1
  refine c147_ctr rfl (wpK_of ?_)
  unfold c147
  simp +contextual only [↓wA, wC, Ex.ends, evR, oneOf, top, ↓reduceIte, Nat.reduceEqDiff, Nat.reduceLeDiff, Nat.reduceAdd, Nat.reduceSub, Nat.reduceMul, reduceCtorEq, Int.reduceEq, Int.reduceLT, Int.reduceLE, Int.reduceNeg]
  refine callK_intro (kinds_ctr ⟨_, _, _, _, M1⟩ A1 (ks := [1, 1]) Hk (Nat.le_refl _) (by decide)) ?_
  rintro x h2 ⟨rfl, k1, k2⟩
  cases hk : kindsB S [j0, j1] [1, 1] with
  | false =>
    simp +contextual only [↓wA, wC, Ex.ends, evR, oneOf, top, ↓reduceIte, Nat.reduceEqDiff, Nat.reduceLeDiff, Nat.reduceAdd, Nat.reduceSub, Nat.reduceMul, reduceCtorEq, Int.reduceEq, Int.reduceLT, Int.reduceLE, Int.reduceNeg]
    rw [num2_no hk]
    exact ⟨_, _, k2 hk⟩
  | true =>
    obtain rfl := k1 hk
    clear k1 k2 Hk
    generalize h.new (.ofL [.int .i64 1, .int .i64 1] 0 false) = H1 at *
    simp only [kindsB, Bool.and_true, Bool.and_eq_true, decide_eq_true_eq] at hk
    have E := M1.rep.ext
    obtain ⟨a0, ha0⟩ := kind_int hk.1
    obtain ⟨hj0, b0, o0, fl0, _, _, ia0, _, ld0⟩ := M1.arg A1 0 0 j0 rfl rfl
    rw [ha0] at ld0
    simp only [kindV, numV, strV] at ld0
    have l0 := ld0 _ (Ext.refl _)
    obtain ⟨a1, ha1⟩ := kind_int hk.2
    obtain ⟨hj1, b1, o1, fl1, _, _, ia1, _, ld1⟩ := M1.arg A1 1 1 j1 rfl rfl
    rw [ha1] at ld1
    simp only [kindV, numV, strV] at ld1
    have l1 := ld1 _ (Ext.refl _)
    have gx : H1.get bx = .ofL [.func f []] 0 false := (E.get _ hbo).trans hbx
    by_cases hz : a1 = 0
    · have hz' := eq_true hz
      simp +contextual only [gx, ia0, ia1, l0.1, l1.1, l0.2, l1.2, hz', ↓wA, wC, Ex.ends, evR, oneOf, top, ↓reduceIte, Nat.reduceEqDiff, Nat.reduceLeDiff, Nat.reduceAdd, Nat.reduceSub, Nat.reduceMul, reduceCtorEq, Int.reduceEq, Int.reduceLT, Int.reduceLE, Int.reduceNeg]
      refine callK_intro (thing_ctr H1 1 .nilslice ⟨rfl, rfl, rfl⟩) ?_
      rintro x h3 F
      obtain ⟨K', ad', M3, rfl, hn, t⟩ := M1.make (v := .thing 1 []) F rfl
      simp +contextual only [↓wA, wC, Ex.ends, evR, oneOf, top, ↓reduceIte, Nat.reduceEqDiff, Nat.reduceLeDiff, Nat.reduceAdd, Nat.reduceSub, Nat.reduceMul, reduceCtorEq, Int.reduceEq, Int.reduceLT, Int.reduceLE, Int.reduceNeg]
      refine callK_intro (raises_ctr ⟨_, _, _, _, M3⟩ O.w hn) ?_
      rintro x h4 ⟨K4, M4⟩
      simp +contextual only [↓wA, wC, Ex.ends, evR, oneOf, top, ↓reduceIte, Nat.reduceEqDiff, Nat.reduceLeDiff, Nat.reduceAdd, Nat.reduceSub, Nat.reduceMul, reduceCtorEq, Int.reduceEq, Int.reduceLT, Int.reduceLE, Int.reduceNeg]
      refine ⟨K4, ad', ?_⟩
      simp only [St.num2, List.getD_cons_zero, List.getD_cons_succ, ha0, ha1, hz, if_true]
      exact M4
    · have hz' := eq_false hz
      obtain ⟨C, r1, r2⟩ := hg a0 a1 H1 (O.ints _ _ ha0) (O.ints _ _ ha1) hz
      simp +contextual only [gx, ia0, ia1, l0.1, l1.1, l0.2, l1.2, hz', ↓wA, wC, Ex.ends, evR, oneOf, top, ↓reduceIte, Nat.reduceEqDiff, Nat.reduceLeDiff, Nat.reduceAdd, Nat.reduceSub, Nat.reduceMul, reduceCtorEq, Int.reduceEq, Int.reduceLT, Int.reduceLE, Int.reduceNeg]
      refine callK_pure C ?_
      simp +contextual only [gx, ia0, ia1, l0.1, l1.1, l0.2, l1.2, hz', ↓wA, wC, Ex.ends, evR, oneOf, top, ↓reduceIte, Nat.reduceEqDiff, Nat.reduceLeDiff, Nat.reduceAdd, Nat.reduceSub, Nat.reduceMul, reduceCtorEq, Int.reduceEq, Int.reduceLT, Int.reduceLE, Int.reduceNeg]
      refine callK_pure (wrap_pure (g a0 a1) H1 ⟨r1, r2⟩) ?_
      simp +contextual only [gx, ia0, ia1, l0.1, l1.1, l0.2, l1.2, hz', ↓wA, wC, Ex.ends, evR, oneOf, top, ↓reduceIte, Nat.reduceEqDiff, Nat.reduceLeDiff, Nat.reduceAdd, Nat.reduceSub, Nat.reduceMul, reduceCtorEq, Int.reduceEq, Int.reduceLT, Int.reduceLE, Int.reduceNeg]
      refine callK_intro (num_ctr H1 (wr (g a0 a1))) ?_
      rintro x h3 F
      obtain ⟨K', ad', M3, rfl, hn, t⟩ := M1.make (v := .int (wr (g a0 a1))) F rfl
      obtain ⟨_, _, e3, _⟩ := F
      have l0' := ld0 _ e3
      have l1' := ld1 _ e3
      have gx' := (e3.get _ (E.old hbo)).trans gx
      simp +contextual only [gx, ia0, ia1, l0.1, l1.1, l0.2, l1.2, gx', l0'.1, l1'.1, l0'.2, l1'.2, ↓wA, wC, Ex.ends, evR, oneOf, top, ↓reduceIte, Nat.reduceEqDiff, Nat.reduceLeDiff, Nat.reduceAdd, Nat.reduceSub, Nat.reduceMul, reduceCtorEq, Int.reduceEq, Int.reduceLT, Int.reduceLE, Int.reduceNeg]
      refine callK_intro (tells_ctr ⟨_, _, _, _, M3⟩ O.w hn) ?_
      rintro x h4 ⟨K4, M4⟩
      simp +contextual only [gx, ia0, ia1, l0.1, l1.1, l0.2, l1.2, gx', l0'.1, l1'.1, l0'.2, l1'.2, ↓wA, wC, Ex.ends, evR, oneOf, top, ↓reduceIte, Nat.reduceEqDiff, Nat.reduceLeDiff, Nat.reduceAdd, Nat.reduceSub, Nat.reduceMul, reduceCtorEq, Int.reduceEq, Int.reduceLT, Int.reduceLE, Int.reduceNeg]
      refine ⟨K4, ad', ?_⟩
      simp only [St.num2, List.getD_cons_zero, List.getD_cons_succ, ha0, ha1, if_neg hz]
      exact M4
set_option maxHeartbeats 1000000 in
theorem neg_ctr (M : PM h0 h mb K ad inp pm S steps) (O : Ok S) {j0 : Nat} {vl : V} (A : ArgsR h ad [j0] vl) :
    Ctr Tryz.prog 90 [.ptr mb 0, vl] h fun x h' => ∃ K' ad', PM h0 h' mb K' ad' inp pm (S.num1 [j0] fun a => S.tellsV (.int (wr (-a)))) steps := by
  obtain ⟨_, _, _, _, M⟩ := M
  have e1 : Ext h (h.new (.ofL [.int .i64 1] 0 false)) := (Ext.refl h).new _
  have Hk : SlV (h.new (.ofL [.int .i64 1] 0 false)) 1 (.slice (pa h.next) 0 1 1) 1 (intsV [1]) := ints_new h [1]
  have M1 := M.ext e1
  have A1 := A.ext e1
  refine c90_ctr rfl (wpK_of ?_)
  unfold c90
  simp +contextual only [↓wA, wC, Ex.ends, evR, oneOf, top, ↓reduceIte, Nat.reduceEqDiff, Nat.reduceLeDiff, Nat.reduceAdd, Nat.reduceSub, Nat.reduceMul, reduceCtorEq, Int.reduceEq, Int.reduceLT, Int.reduceLE, Int.reduceNeg]
  refine callK_intro (kinds_ctr ⟨_, _, _, _, M1⟩ A1 (ks := [1]) Hk (Nat.le_refl _) (by decide)) ?_
  rintro x h2 ⟨rfl, k1, k2⟩
  cases hk : kindsB S [j0] [1] with
  | false =>
    simp +contextual only [↓wA, wC, Ex.ends, evR, oneOf, top, ↓reduceIte, Nat.reduceEqDiff, Nat.reduceLeDiff, Nat.reduceAdd, Nat.reduceSub, Nat.reduceMul, reduceCtorEq, Int.reduceEq, Int.reduceLT, Int.reduceLE, Int.reduceNeg]
    rw [num1_no hk]
    exact ⟨_, _, k2 hk⟩
  | true =>
    obtain rfl := k1 hk
    clear k1 k2 Hk
    generalize h.new (.ofL [.int .i64 1] 0 false) = H1 at *
    simp only [kindsB, Bool.and_true, Bool.and_eq_true, decide_eq_true_eq] at hk
    have E := M1.rep.ext
    obtain ⟨a0, ha0⟩ := kind_int hk
    obtain ⟨hj0, b0, o0, fl0, _, _, ia0, _, ld0⟩ := M1.arg A1 0 0 j0 rfl rfl
    rw [ha0] at ld0
    simp only [kindV, numV, strV] at ld0
    have l0 := ld0 _ (Ext.refl _)
    have hr := O.ints _ _ ha0
    have w0 : IntKind.i64.wrap (0 - a0) = -a0 := by rw [wrap_i64 (by omega) (by omega)]; omega
    simp +contextual only [ia0, l0.1, l0.2, w0, ↓wA, wC, Ex.ends, evR, oneOf, top, ↓reduceIte, Nat.reduceEqDiff, Nat.reduceLeDiff, Nat.reduceAdd, Nat.reduceSub, Nat.reduceMul, reduceCtorEq, Int.reduceEq, Int.reduceLT, Int.reduceLE, Int.reduceNeg]
    refine callK_pure (wrap_pure (-a0) H1 ⟨by omega, by omega⟩) ?_
    simp +contextual only [ia0, l0.1, l0.2, w0, ↓wA, wC, Ex.ends, evR, oneOf, top, ↓reduceIte, Nat.reduceEqDiff, Nat.reduceLeDiff, Nat.reduceAdd, Nat.reduceSub, Nat.reduceMul, reduceCtorEq, Int.reduceEq, Int.reduceLT, Int.reduceLE, Int.reduceNeg]
    refine callK_intro (num_ctr H1 (wr (-a0))) ?_
    rintro x h3 F
    obtain ⟨K', ad', M3, rfl, hn, t⟩ := M1.make (v := .int (wr (-a0))) F rfl
    simp +contextual only [↓wA, wC, Ex.ends, evR, oneOf, top, ↓reduceIte, Nat.reduceEqDiff, Nat.reduceLeDiff, Nat.reduceAdd, Nat.reduceSub, Nat.reduceMul, reduceCtorEq, Int.reduceEq, Int.reduceLT, Int.reduceLE, Int.reduceNeg]
    refine callK_intro (tells_ctr ⟨_, _, _, _, M3⟩ O.w hn) ?_
    rintro x h4 ⟨K4, M4⟩
    simp +contextual only [↓wA, wC, Ex.ends, evR, oneOf, top, ↓reduceIte, Nat.reduceEqDiff, Nat.reduceLeDiff, Nat.reduceAdd, Nat.reduceSub, Nat.reduceMul, reduceCtorEq, Int.reduceEq, Int.reduceLT, Int.reduceLE, Int.reduceNeg]
    refine ⟨K4, ad', ?_⟩
    simp only [St.num1, List.getD_cons_zero, List.getD_cons_succ, ha0]
    exact M4
set_option maxHeartbeats 1000000 in
theorem size_ctr_ (M : PM h0 h mb K ad inp pm S steps) (O : Ok S) {j0 : Nat} {vl : V} (A : ArgsR h ad [j0] vl) :
    Ctr Tryz.prog 94 [.ptr mb 0, vl] h fun x h' => ∃ K' ad', PM h0 h' mb K' ad' inp pm (S.text1 [j0] fun t => S.tellsV (.int t.length)) steps := by
  obtain ⟨_, _, _, _, M⟩ := M
  have e1 : Ext h (h.new (.ofL [.int .i64 2] 0 false)) := (Ext.refl h).new _
  have Hk : SlV (h.new (.ofL [.int .i64 2] 0 false)) 1 (.slice (pa h.next) 0 1 1) 1 (intsV [2]) := ints_new h [2]
  have M1 := M.ext e1
  have A1 := A.ext e1
  refine c94_ctr rfl (wpK_of ?_)
  unfold c94
  simp +contextual only [↓wA, wC, Ex.ends, evR, oneOf, top, ↓reduceIte, Nat.reduceEqDiff, Nat.reduceLeDiff, Nat.reduceAdd, Nat.reduceSub, Nat.reduceMul, reduceCtorEq, Int.reduceEq, Int.reduceLT, Int.reduceLE, Int.reduceNeg]
  refine callK_intro (kinds_ctr ⟨_, _, _, _, M1⟩ A1 (ks := [2]) Hk (Nat.le_refl _) (by decide)) ?_
  rintro x h2 ⟨rfl, k1, k2⟩
  cases hk : kindsB S [j0] [2] with
  | false =>
    simp +contextual only [↓wA, wC, Ex.ends, evR, oneOf, top, ↓reduceIte, Nat.reduceEqDiff, Nat.reduceLeDiff, Nat.reduceAdd, Nat.reduceSub, Nat.reduceMul, reduceCtorEq, Int.reduceEq, Int.reduceLT, Int.reduceLE, Int.reduceNeg]
    rw [text1_no hk]
    exact ⟨_, _, k2 hk⟩
  | true =>
    obtain rfl := k1 hk
    clear k1 k2 Hk
    generalize h.new (.ofL [.int .i64 2] 0 false) = H1 at *
    simp only [kindsB, Bool.and_true, Bool.and_eq_true, decide_eq_true_eq] at hk
    have E := M1.rep.ext
    obtain ⟨a0, ha0⟩ := kind_text hk
    obtain ⟨hj0, b0, o0, fl0, _, _, ia0, _, ld0⟩ := M1.arg A1 0 0 j0 rfl rfl
    rw [ha0] at ld0
    simp only [kindV, numV, strV] at ld0
    have l0 := ld0 _ (Ext.refl _)
    simp +contextual only [ia0, l0.1, l0.2, ↓wA, wC, Ex.ends, evR, oneOf, top, ↓reduceIte, Nat.reduceEqDiff, Nat.reduceLeDiff, Nat.reduceAdd, Nat.reduceSub, Nat.reduceMul, reduceCtorEq, Int.reduceEq, Int.reduceLT, Int.reduceLE, Int.reduceNeg]
    refine callK_intro (num_ctr H1 a0.length) ?_
    rintro x h3 F
    obtain ⟨K', ad', M3, rfl, hn, t⟩ := M1.make (v := .int a0.length) F rfl
    simp +contextual only [↓wA, wC, Ex.ends, evR, oneOf, top, ↓reduceIte, Nat.reduceEqDiff, Nat.reduceLeDiff, Nat.reduceAdd, Nat.reduceSub, Nat.reduceMul, reduceCtorEq, Int.reduceEq, Int.reduceLT, Int.reduceLE, Int.reduceNeg]
    refine callK_intro (tells_ctr ⟨_, _, _, _, M3⟩ O.w hn) ?_
    rintro x h4 ⟨K4, M4⟩
    simp +contextual only [↓wA, wC, Ex.ends, evR, oneOf, top, ↓reduceIte, Nat.reduceEqDiff, Nat.reduceLeDiff, Nat.reduceAdd, Nat.reduceSub, Nat.reduceMul, reduceCtorEq, Int.reduceEq, Int.reduceLT, Int.reduceLE, Int.reduceNeg]
    refine ⟨K4, ad', ?_⟩
    simp only [St.text1, List.getD_cons_zero, List.getD_cons_succ, ha0]
    exact M4
set_option maxHeartbeats 1000000 in
theorem chr_ctr (M : PM h0 h mb K ad inp pm S steps) (O : Ok S) {j0 : Nat} {vl : V} (A : ArgsR h ad [j0] vl) :
    Ctr Tryz.prog 95 [.ptr mb 0, vl] h fun x h' => ∃ K' ad', PM h0 h' mb K' ad' inp pm (S.num1 [j0] fun a => S.tellsV (.text [St.byteOf a])) steps := by
  obtain ⟨_, _, _, _, M⟩ := M
  have e1 : Ext h (h.new (.ofL [.int .i64 1] 0 false)) := (Ext.refl h).new _
  have Hk : SlV (h.new (.ofL [.int .i64 1] 0 false)) 1 (.slice (pa h.next) 0 1 1) 1 (intsV [1]) := ints_new h [1]
  have M1 := M.ext e1
  have A1 := A.ext e1
  refine c95_ctr rfl (wpK_of ?_)
  unfold c95
  simp +contextual only [↓wA, wC, Ex.ends, evR, oneOf, top, ↓reduceIte, Nat.reduceEqDiff, Nat.reduceLeDiff, Nat.reduceAdd, Nat.reduceSub, Nat.reduceMul, reduceCtorEq, Int.reduceEq, Int.reduceLT, Int.reduceLE, Int.reduceNeg]
  refine callK_intro (kinds_ctr ⟨_, _, _, _, M1⟩ A1 (ks := [1]) Hk (Nat.le_refl _) (by decide)) ?_
  rintro x h2 ⟨rfl, k1, k2⟩
  cases hk : kindsB S [j0] [1] with
  | false =>
    simp +contextual only [↓wA, wC, Ex.ends, evR, oneOf, top, ↓reduceIte, Nat.reduceEqDiff, Nat.reduceLeDiff, Nat.reduceAdd, Nat.reduceSub, Nat.reduceMul, reduceCtorEq, Int.reduceEq, Int.reduceLT, Int.reduceLE, Int.reduceNeg]
    rw [num1_no hk]
    exact ⟨_, _, k2 hk⟩
  | true =>
    obtain rfl := k1 hk
    clear k1 k2 Hk
    generalize h.new (.ofL [.int .i64 1] 0 false) = H1 at *
    simp only [kindsB, Bool.and_true, Bool.and_eq_true, decide_eq_true_eq] at hk
    have E := M1.rep.ext
    obtain ⟨a0, ha0⟩ := kind_int hk
    obtain ⟨hj0, b0, o0, fl0, _, _, ia0, _, ld0⟩ := M1.arg A1 0 0 j0 rfl rfl
    rw [ha0] at ld0
    simp only [kindV, numV, strV] at ld0
    have l0 := ld0 _ (Ext.refl _)
    have w0 : IntKind.u8.wrap a0 = ((St.byteOf a0).toNat : Int) := wrap_u8 a0
    have cn : convStr.run (.slice (pa H1.next) 0 1 1) (H1.new (.ofL [.int .u8 ((St.byteOf a0).toNat : Int)] 0 false)) = .val (.str [St.byteOf a0]) (H1.new (.ofL [.int .u8 ((St.byteOf a0).toNat : Int)] 0 false)) := conv_new_ [St.byteOf a0] H1 (show 1 ≤ top by decide)
    have M2 := M1.ext ((Ext.refl H1).new (.ofL [.int .u8 ((St.byteOf a0).toNat : Int)] 0 false))
    simp +contextual only [ia0, l0.1, l0.2, w0, cn, ↓wA, wC, Ex.ends, evR, oneOf, top, ↓reduceIte, Nat.reduceEqDiff, Nat.reduceLeDiff, Nat.reduceAdd, Nat.reduceSub, Nat.reduceMul, reduceCtorEq, Int.reduceEq, Int.reduceLT, Int.reduceLE, Int.reduceNeg]
    refine callK_intro (text_ctr _ [St.byteOf a0]) ?_
    rintro x h3 F
    obtain ⟨K', ad', M3, rfl, hn, t⟩ := M2.make (v := .text [St.byteOf a0]) F rfl
    simp +contextual only [↓wA, wC, Ex.ends, evR, oneOf, top, ↓reduceIte, Nat.reduceEqDiff, Nat.reduceLeDiff, Nat.reduceAdd, Nat.reduceSub, Nat.reduceMul, reduceCtorEq, Int.reduceEq, Int.reduceLT, Int.reduceLE, Int.reduceNeg]
    refine callK_intro (tells_ctr ⟨_, _, _, _, M3⟩ O.w hn) ?_
    rintro x h4 ⟨K4, M4⟩
    simp +contextual only [↓wA, wC, Ex.ends, evR, oneOf, top, ↓reduceIte, Nat.reduceEqDiff, Nat.reduceLeDiff, Nat.reduceAdd, Nat.reduceSub, Nat.reduceMul, reduceCtorEq, Int.reduceEq, Int.reduceLT, Int.reduceLE, Int.reduceNeg]
    refine ⟨K4, ad', ?_⟩
    simp only [St.num1, List.getD_cons_zero, List.getD_cons_succ, ha0]
    exact M4
set_option maxHeartbeats 1000000 in
theorem putc_ctr (M : PM h0 h mb K ad inp pm S steps) (O : Ok S) {j0 : Nat} {vl : V} (A : ArgsR h ad [j0] vl) :
    Ctr Tryz.prog 92 [.ptr mb 0, vl] h fun x h' => ∃ K' ad', PM h0 h' mb K' ad' inp pm (S.num1 [j0] fun a => { S with out := S.out ++ [St.byteOf a] }.tellsV (.thing 0 [])) steps := by
  obtain ⟨_, _, _, _, M⟩ := M
  have e1 : Ext h (h.new (.ofL [.int .i64 1] 0 false)) := (Ext.refl h).new _
  have Hk : SlV (h.new (.ofL [.int .i64 1] 0 false)) 1 (.slice (pa h.next) 0 1 1) 1 (intsV [1]) := ints_new h [1]
  have M1 := M.ext e1
  have A1 := A.ext e1
  refine c92_ctr rfl (wpK_of ?_)
  unfold c92
  simp +contextual only [↓wA, wC, Ex.ends, evR, oneOf, top, ↓reduceIte, Nat.reduceEqDiff, Nat.reduceLeDiff, Nat.reduceAdd, Nat.reduceSub, Nat.reduceMul, reduceCtorEq, Int.reduceEq, Int.reduceLT, Int.reduceLE, Int.reduceNeg]
  refine callK_intro (kinds_ctr ⟨_, _, _, _, M1⟩ A1 (ks := [1]) Hk (Nat.le_refl _) (by decide)) ?_
  rintro x h2 ⟨rfl, k1, k2⟩
  cases hk : kindsB S [j0] [1] with
  | false =>
    simp +contextual only [↓wA, wC, Ex.ends, evR, oneOf, top, ↓reduceIte, Nat.reduceEqDiff, Nat.reduceLeDiff, Nat.reduceAdd, Nat.reduceSub, Nat.reduceMul, reduceCtorEq, Int.reduceEq, Int.reduceLT, Int.reduceLE, Int.reduceNeg]
    rw [num1_no hk]
    exact ⟨_, _, k2 hk⟩
  | true =>
    obtain rfl := k1 hk
    clear k1 k2 Hk
    generalize h.new (.ofL [.int .i64 1] 0 false) = H1 at *
    simp only [kindsB, Bool.and_true, Bool.and_eq_true, decide_eq_true_eq] at hk
    have E := M1.rep.ext
    obtain ⟨a0, ha0⟩ := kind_int hk
    obtain ⟨hj0, b0, o0, fl0, _, _, ia0, _, ld0⟩ := M1.arg A1 0 0 j0 rfl rfl
    rw [ha0] at ld0
    simp only [kindV, numV, strV] at ld0
    have l0 := ld0 _ (Ext.refl _)
    have w0 : IntKind.u8.wrap a0 = ((St.byteOf a0).toNat : Int) := wrap_u8 a0
    have gm := M1.get
    have eB : Ext H1 (H1.new (.ofL [.int .u8 ((St.byteOf a0).toNat : Int)] 0 false)) := (Ext.refl H1).new _
    have hno := O.out
    have hfr : h0.next ≤ H1.next := E.next
    obtain ⟨v', h3, p1, p2, p3, p4, p5⟩ := app_one (cs := [.int .u8 ((St.byteOf a0).toNat : Int)]) (by omega) M1.ou.1 hfr (by unfold top; omega) rfl rfl
    have p2' : SlO h0.next h3 1 v' (S.out ++ [St.byteOf a0]).length (bytesV (S.out ++ [St.byteOf a0])) := by
      rw [bytesV_append, List.length_append]; exact p2
    obtain ⟨K3, M3⟩ := M1.wrote p2' p3 (fun b q => by rcases p5 b q with r | r; exact .inl r; exact .inr (by omega))
    have gm3 : h3.get mb = _ := (M1.get_wrote p3).trans gm
    have ow := p2.v.one
    have hmd : Mod (fun b => False) H1 (H1.new (.ofL [.int .u8 ((St.byteOf a0).toNat : Int)] 0 false)) := eB.mod _
    have gmB := (eB.get mb M1.old.2).trans gm
    have lB := ld0 _ eB
    have hk0 := (M1.val hj0).choose_spec.choose_spec.choose_spec.2.1
    have gA : h3.get (blkOf ad j0) = H1.get (blkOf ad j0) := M1.sees p3 (M1.at_old hj0).1 (by rw [hk0]; simp)
    have gA' := gA.trans l0.2
    have lB1 := lB.1
    rw [get_new] at lB1
    simp +contextual only [ask_cvi, gm, gmB, gm3, ia0, l0.1, l0.2, lB1, lB.1, lB.2, w0, p1, ow.1, ow.2.1, ↓wA, wC, Ex.ends, evR, oneOf, top, ↓reduceIte, Nat.reduceEqDiff, Nat.reduceLeDiff, Nat.reduceAdd, Nat.reduceSub, Nat.reduceMul, reduceCtorEq, Int.reduceEq, Int.reduceLT, Int.reduceLE, Int.reduceNeg]
    refine callK_intro (thing_ctr _ 0 .nilslice ⟨rfl, rfl, rfl⟩) ?_
    rintro x h4 F
    obtain ⟨K', ad', M4, rfl, hn, t⟩ := M3.make (v := .thing 0 []) F rfl
    simp +contextual only [↓wA, wC, Ex.ends, evR, oneOf, top, ↓reduceIte, Nat.reduceEqDiff, Nat.reduceLeDiff, Nat.reduceAdd, Nat.reduceSub, Nat.reduceMul, reduceCtorEq, Int.reduceEq, Int.reduceLT, Int.reduceLE, Int.reduceNeg]
    refine callK_intro (tells_ctr ⟨_, _, _, _, M4⟩ O.w hn) ?_
    rintro x h5 ⟨K5, M5⟩
    simp +contextual only [↓wA, wC, Ex.ends, evR, oneOf, top, ↓reduceIte, Nat.reduceEqDiff, Nat.reduceLeDiff, Nat.reduceAdd, Nat.reduceSub, Nat.reduceMul, reduceCtorEq, Int.reduceEq, Int.reduceLT, Int.reduceLE, Int.reduceNeg]
    refine ⟨K5, ad', ?_⟩
    simp only [St.num1, List.getD_cons_zero, ha0]
    exact M5
end
end Go.Proofs.YtjbiefneffiogaaGreat

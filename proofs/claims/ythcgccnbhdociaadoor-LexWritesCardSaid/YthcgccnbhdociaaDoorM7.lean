/- The chapter's functions, walked by the abstract machine: plain lemmas, no condition. -/
import Derived.Test.YthcgccnbhdociaaDoorM6
import Derived.Shelf.Strings.OnBuilder
import Derived.Lib.ItoaLen

namespace Go.Proofs.YthcgccnbhdociaaDoor
open Go Am Go.Shelf
set_option linter.unusedSectionVars false
set_option linter.unusedSimpArgs false
set_option linter.unusedVariables false

def Tryd.lays156_ren : Go.Shelf.Ren := ⟨fun | 156 => 39 | 165 => 66 | 166 => 67 | 169 => 68 | 240 => 83 | 241 => 84 | 276 => 94 | 277 => 95 | n => n, fun | 31 => 58 | 9 => 9 | 3 => 3 | 4 => 4 | 0 => 0 | 20 => 20 | 72 => 78 | 76 => 82 | 70 => 76 | 37 => 43 | 75 => 81 | 127 => 98 | 164 => 106 | 5 => 5 | 80 => 84 | n => n, fun | n => n⟩
theorem Tryd.lays156 : Go.Proofs.Lays.n156 Tryd.prog Tryd.lays156_ren := {
  mixed := by kernel_rfl,
  f156 := Tryd.func39.trans (congrArg some (by kernel_rfl)),
  f165 := Tryd.func66.trans (congrArg some (by kernel_rfl)),
  f166 := Tryd.func67.trans (congrArg some (by kernel_rfl)),
  f169 := Tryd.func68.trans (congrArg some (by kernel_rfl)),
  f240 := Tryd.func83.trans (congrArg some (by kernel_rfl)),
  f241 := Tryd.func84.trans (congrArg some (by kernel_rfl)),
  f276 := Tryd.func94.trans (congrArg some (by kernel_rfl)),
  f277 := Tryd.func95.trans (congrArg some (by kernel_rfl)),
  t0 := Tryd.underlying0,
  a0 := Tryd.isAgg0,
  z0 := Tryd.sizeOf0,
  v0 := Tryd.zeroValue0,
  t3 := Tryd.underlying3,
  a3 := Tryd.isAgg3,
  z3 := Tryd.sizeOf3,
  v3 := Tryd.zeroValue3,
  t4 := Tryd.underlying4,
  a4 := Tryd.isAgg4,
  z4 := Tryd.sizeOf4,
  v4 := Tryd.zeroValue4,
  t9 := Tryd.underlying9,
  a9 := Tryd.isAgg9,
  z9 := Tryd.sizeOf9,
  v9 := Tryd.zeroValue9,
  t20 := Tryd.underlying20,
  a20 := Tryd.isAgg20,
  z20 := Tryd.sizeOf20,
  v20 := Tryd.zeroValue20,
  t31 := Tryd.underlying58,
  a31 := Tryd.isAgg58,
  z31 := Tryd.sizeOf58,
  v31 := Tryd.zeroValue58,
  t37 := Tryd.underlying43,
  a37 := Tryd.isAgg43,
  z37 := Tryd.sizeOf43,
  v37 := Tryd.zeroValue43,
  t70 := Tryd.underlying76,
  a70 := Tryd.isAgg76,
  z70 := Tryd.sizeOf76,
  v70 := Tryd.zeroValue76,
  t72 := Tryd.underlying78,
  a72 := Tryd.isAgg78,
  z72 := Tryd.sizeOf78,
  v72 := Tryd.zeroValue78,
  t75 := Tryd.underlying81,
  a75 := Tryd.isAgg81,
  z75 := Tryd.sizeOf81,
  v75 := Tryd.zeroValue81,
  t76 := Tryd.underlying82,
  a76 := Tryd.isAgg82,
  z76 := Tryd.sizeOf82,
  v76 := Tryd.zeroValue82,
  t127 := Tryd.underlying98,
  a127 := Tryd.isAgg98,
  z127 := Tryd.sizeOf98,
  v127 := Tryd.zeroValue98,
  t164 := Tryd.underlying106,
  a164 := Tryd.isAgg106,
  z164 := Tryd.sizeOf106,
  v164 := Tryd.zeroValue106 }
theorem Tryd.extra156 : Builder.Extra Tryd.prog Tryd.lays156_ren where
  sizeBuilder := by kernel_rfl
  liesBuilder := by kernel_rfl
  t5 := Tryd.underlying5
  a5 := Tryd.isAgg5
  z5 := Tryd.sizeOf5
  v5 := Tryd.zeroValue5
  infoByte := by kernel_rfl
  cellsByte := by kernel_rfl
  sizeByte := by kernel_rfl
  neB5 := by decide

theorem world_cells {w0 : Fr} {E : Env} {h : Heap} {W : World} (s : Sim w0 E h W) {b : Pa} {p : Pl} (hp : E b = some p) {off : Nat} {vs : List V} (H : AtL h b off vs) :
    p.blk < W.heap.size ∧ ∀ i v, vs[i]? = some v → ∃ y, W.cell? ⟨p.blk, p.base + off + i, none⟩ = some y ∧ Rel E v y := by
  obtain ⟨_, us, hr, hle, htk⟩ := H
  have key : ∃ c el fz, W.heap[p.blk]? = some (.cells c el fz) ∧ CellsOk E us.length p.base (puts .e 0 us) c := by
    have hb := s.at hp
    rcases hr with hr | ⟨esz, st, hr⟩
    · rw [hr] at hb
      obtain ⟨_, p', c, el, fz, q1, q2, q3, q4⟩ := hb
      rw [hp] at q1
      cases q1
      exact ⟨c, el, fz, q3, q4⟩
    · rw [hr] at hb
      obtain ⟨_, p', c, el, fz, q1, q2, q3, _, _, _, q4⟩ := hb
      rw [hp] at q1
      cases q1
      exact ⟨c, el, fz, q3, q4⟩
  obtain ⟨c, el, fz, k1, k2, k3⟩ := key
  refine ⟨?_, fun i v hv => ?_⟩
  · rcases Nat.lt_or_ge p.blk W.heap.size with q | q
    · exact q
    · rw [Array.getElem?_eq_none q] at k1; cases k1
  · have hi : i < vs.length := by
      rcases Nat.lt_or_ge i vs.length with q | q
      · exact q
      · rw [List.getElem?_eq_none q] at hv; cases hv
    have hlt : p.base + off + i < c.size := by omega
    refine ⟨c[p.base + off + i], ?_, ?_⟩
    · simp only [World.cell?, k1]
      exact Array.getElem?_eq_getElem hlt
    · have := k3 (off + i) c[p.base + off + i] (by omega) (by rw [← Nat.add_assoc]; exact Array.getElem?_eq_getElem hlt)
      have hg := get_puts us 0 (off + i) .e
      rw [if_pos (by omega), Nat.zero_add] at hg
      rw [hg] at this
      have hu : us[off + i]? = some v := by
        rw [← htk, List.getElem?_take, if_pos hi, List.getElem?_drop] at hv
        exact hv
      rw [hu] at this
      exact this

theorem join_calls (L : List (List UInt8)) (sep : List UInt8) (v : V) (h : Heap) (H : SlV h 1 v L.length (strsV L)) (hl : L.length ≤ 1000000000) (hj : (Lib.join L sep).length ≤ 1000000000) :
    CallsV Tryd.prog 39 [v, .str sep] h (.str (Lib.join L sep)) h := by
  refine .inl ⟨⟨_, Tryd.func39, by kernel_rfl⟩, fun w0 E W xs hx s => ?_⟩
  obtain ⟨y, ys, rfl, q1, z, zs, rfl, q2, rfl⟩ := hx
  simp only [Rel] at q2
  subst q2
  have hmap : (L.map fun x => (⟨⟨x⟩⟩ : ByteArray)).map (·.data.toList) = L := by
    rw [List.map_map]
    exact (List.map_congr_left (fun _ _ => rfl)).trans (List.map_id L)
  have cells : ∀ (b : Pa) (off c : Nat) (p : Pl), E b = some p → AtL h b off (strsV L) → L.length ≤ c → y = .slice (some ⟨p.blk, p.base + off, none⟩) L.length c → Calls Tryd.prog 39 #[y, .string ⟨⟨sep⟩⟩] W fun e w' => ∃ E' x, e = .returned x ∧ E.le E' ∧ Rel E' (.str (Lib.join L sep)) x ∧ Sim w0 E' h w' := by
    intro b off c p hp hA hc hy
    obtain ⟨k1, k2⟩ := world_cells s hp hA
    have hcells : ∀ (j : Nat) (x : ByteArray), (L.map fun x => (⟨⟨x⟩⟩ : ByteArray))[j]? = some x → W.cell? ⟨p.blk, p.base + off + j, none⟩ = some (.string x) := by
      intro j x hx
      rw [List.getElem?_map] at hx
      cases hL : L[j]? with
      | none => rw [hL] at hx; cases hx
      | some t =>
        rw [hL] at hx
        cases hx
        obtain ⟨y, g1, g2⟩ := k2 j (.str t) (by unfold strsV; rw [List.getElem?_map, hL]; rfl)
        simp only [Rel] at g2
        rw [g1, g2]
    have := Any.strings_Join Tryd.lays156 Tryd.extra156 p.blk (p.base + off) c (L.map fun x => (⟨⟨x⟩⟩ : ByteArray)) ⟨⟨sep⟩⟩ W hcells k1 (by rw [List.length_map]; omega) (by rw [List.length_map]; exact hc) (by rw [hmap]; show (Lib.join L sep).length ≤ _; omega)
    rw [hmap, List.length_map] at this
    rw [hy]
    refine this.mono fun e w' q => ?_
    exact ⟨E, _, q.1, fun _ _ q => q, by simp only [Rel], s.below q.2⟩
  have none' : ∀ a c, L.length = 0 → y = .slice a 0 c → Calls Tryd.prog 39 #[y, .string ⟨⟨sep⟩⟩] W fun e w' => ∃ E' x, e = .returned x ∧ E.le E' ∧ Rel E' (.str (Lib.join L sep)) x ∧ Sim w0 E' h w' := by
    intro a c h0 hy
    have hL : L = [] := List.eq_nil_of_length_eq_zero h0
    subst hL
    rw [hy]
    refine (Any.strings_Join_none Tryd.lays156 Tryd.extra156 a c ⟨⟨sep⟩⟩ W).mono fun e w' q => ?_
    obtain ⟨q1, rfl⟩ := q
    exact ⟨E, _, q1, fun _ _ q => q, by simp only [Rel]; rfl, s⟩
  have H2 := H.2
  cases v <;> simp only at H2 <;> first | exact H2.elim | skip
  · simp only [Rel] at q1
    obtain ⟨p, g1, g2, g3⟩ := q1
    obtain ⟨e1, e2⟩ := H2
    rw [e1] at g2 g3
    exact cells _ _ _ p g1 e2 g2 g3
  · simp only [Rel] at q1
    obtain ⟨p, g1, g2, g3⟩ := q1
    obtain ⟨e1, e2⟩ := H2
    rw [e1] at g2 g3
    exact cells _ _ _ p g1 e2 (by omega) g3
  · simp only [Rel] at q1
    obtain ⟨a, c, rfl⟩ := q1
    exact none' _ _ H2 rfl
  · simp only [Rel] at q1
    exact none' _ _ H2 q1
end Go.Proofs.YthcgccnbhdociaaDoor

namespace Go.Proofs.YthcgccnbhdociaaDoor
open Go Am
set_option linter.unusedSectionVars false
set_option linter.unusedSimpArgs false
set_option linter.unusedVariables false

/-! Words of any place; their text. -/
structure Wi where
  kind : Int
  num : Int
  pos : Int
  text : List UInt8
deriving DecidableEq
def Wi.enc (w : Wi) : List V := [.int .i64 w.kind, .int .i64 w.num, .int .i64 w.pos, .str w.text]
def wisV : List Wi → List V
  | [] => []
  | w :: ws => w.enc ++ wisV ws
theorem wisV_len : ∀ ws : List Wi, (wisV ws).length = ws.length * 4
  | [] => rfl
  | w :: ws => by rw [wisV, List.length_append, wisV_len ws, List.length_cons]; simp [Wi.enc]; omega
theorem wisV_at : ∀ (ws : List Wi) (i : Nat) (hi : i < ws.length), ((wisV ws).drop (i * 4)).take 4 = ws[i].enc
  | w :: ws, 0, _ => by simp [wisV, Wi.enc]
  | w :: ws, i + 1, hi => by
    have := wisV_at ws i (by simpa using hi)
    rw [show (i + 1) * 4 = 4 + i * 4 from by omega]
    simp only [wisV, List.getElem_cons_succ]
    rw [← List.drop_drop, show (w.enc ++ wisV ws).drop 4 = wisV ws from by simp [Wi.enc]]
    exact this
def writtenM (k n : Int) (s : List UInt8) : List UInt8 :=
  if k = 1 then Lib.itoa (if n < 0 then n + 2147483648 else n) else if k = 2 then quotedM s else if k = 5 then 39 :: s else s
def Wi.may (w : Wi) : Bool := mayM w.kind w.num w.text
def Wi.out (w : Wi) : List UInt8 := writtenM w.kind w.num w.text
def writeM (ws : List Wi) : List UInt8 × Int := if ws.all Wi.may then (Lib.join (ws.map Wi.out) [32], 0) else ([], 2)

theorem and31 {n : Int} (h0 : -1073741824 ≤ n) (h1 : n ≤ 1073741823) : (BK.int .and).run Tryd.prog (.int .i64 n) (.int .i64 2147483647) = some (.int .i64 (if n < 0 then n + 2147483648 else n)) := by
  have h : (BK.int .and).run Tryd.prog (.int .i64 n) (.int .i64 2147483647) = some (.int .i64 (IntKind.i64.wrap ((BitVec.ofInt 64 n &&& BitVec.ofInt 64 2147483647).toNat : Nat))) := rfl
  rw [h, BitVec.toNat_and, BitVec.toNat_ofInt, BitVec.toNat_ofInt]
  have e : ((2147483647 : Int) % ((2 ^ 64 : Nat) : Int)).toNat = 2 ^ 31 - 1 := by decide
  rw [e, Nat.and_two_pow_sub_one_eq_mod]
  have e2 : ((2 ^ 64 : Nat) : Int) = 18446744073709551616 := by decide
  rw [e2]
  have e3 : (((n % 18446744073709551616).toNat % 2 ^ 31 : Nat) : Int) = if n < 0 then n + 2147483648 else n := by
    split <;> omega
  rw [e3, wrap_i64 (by split <;> omega) (by split <;> omega)]
theorem join_len (M : Nat) : ∀ L : List (List UInt8), (∀ x ∈ L, x.length ≤ M) → (Lib.join L [32]).length ≤ L.length * (M + 1)
  | [], _ => by simp [Lib.join_nil]
  | x :: L, h => by
    rw [Lib.join_cons, List.length_append]
    have ht : ∀ L : List (List UInt8), (∀ x ∈ L, x.length ≤ M) → (Lib.joinTail [32] L).length ≤ L.length * (M + 1) := by
      intro L
      induction L with
      | nil => intro _; simp [Lib.joinTail]
      | cons y L ih =>
        intro h
        have := ih (fun x hx => h x (List.mem_cons_of_mem _ hx))
        have hy := h y (List.mem_cons_self ..)
        have e : Lib.joinTail [32] (y :: L) = (32 :: y) ++ Lib.joinTail [32] L := by simp [Lib.joinTail]
        rw [e, List.length_append, List.length_cons, List.length_cons, Nat.add_mul]
        omega
    have := ht L (fun x hx => h x (List.mem_cons_of_mem _ hx))
    have hx := h x (List.mem_cons_self ..)
    rw [List.length_cons, Nat.add_mul]
    omega
theorem out_len {w : Wi} (h : w.may = true) (hs : w.text.length ≤ 5000) : w.out.length ≤ 20002 := by
  unfold Wi.out writtenM
  split
  · rename_i hk
    unfold Wi.may mayM at h
    rw [if_pos hk] at h
    simp only [Bool.and_eq_true, decide_eq_true_eq] at h
    have := Lib.itoa_length_le (if w.num < 0 then w.num + 2147483648 else w.num) (by split <;> omega) (by split <;> omega)
    omega
  · split
    · unfold quotedM
      have := qbs_len w.text
      simp only [List.length_cons, List.length_append, List.length_nil]
      omega
    · split
      · simp only [List.length_cons]; omega
      · omega
theorem write_ctr (v0 : V) (ws : List Wi) (h : Heap) (H : SlV h 4 v0 ws.length (wisV ws)) (hl : ws.length ≤ 10000) (ht : ∀ w ∈ ws, w.text.length ≤ 5000) :
    Ctr Tryd.prog 18 [v0] h fun x h' => x = .tuple [.str (writeM ws).1, .int .i64 (writeM ws).2] ∧ Ext h h' := by
  refine c18_ctr rfl (wpK_of ?_)
  unfold c18
  simp +contextual only [H.len, ↓wA, wB, wZ, repeatV, RX.evs, spl, over, ones, Ex.ends, evR, oneOf, top, ↓reduceIte, Nat.reduceEqDiff, Nat.reduceLeDiff, Nat.reduceAdd, Nat.reduceSub, Nat.reduceMul, reduceCtorEq, Int.reduceEq, Int.reduceLT, Int.reduceLE, Int.reduceNeg, Int.reduceAdd, Int.reduceSub]
  refine loopK_intro (fun r h' => ∃ (i : Nat) (v : V), r 4 = v ∧ r 8 = v0 ∧ r 9 = .int .i64 ws.length ∧ r 10 = .int .i64 i ∧ i ≤ ws.length ∧ ((ws.take i).all Wi.may = true) ∧
      SlO h.next h' 1 v i (strsV ((ws.take i).map Wi.out)) ∧ Ext h h') (fun r h' => ws.length - (r 10).toN) ?_ ?_
  · refine ⟨0, .nilslice, by simp only [↓wA, wB, wZ, repeatV, RX.evs, spl, over, ones, Ex.ends, evR, oneOf, top, ↓reduceIte, Nat.reduceEqDiff, Nat.reduceLeDiff, Nat.reduceAdd, Nat.reduceSub, Nat.reduceMul, reduceCtorEq, Int.reduceEq, Int.reduceLT, Int.reduceLE, Int.reduceNeg, Int.reduceAdd, Int.reduceSub], by simp only [↓wA, wB, wZ, repeatV, RX.evs, spl, over, ones, Ex.ends, evR, oneOf, top, ↓reduceIte, Nat.reduceEqDiff, Nat.reduceLeDiff, Nat.reduceAdd, Nat.reduceSub, Nat.reduceMul, reduceCtorEq, Int.reduceEq, Int.reduceLT, Int.reduceLE, Int.reduceNeg, Int.reduceAdd, Int.reduceSub], by simp only [↓wA, wB, wZ, repeatV, RX.evs, spl, over, ones, Ex.ends, evR, oneOf, top, ↓reduceIte, Nat.reduceEqDiff, Nat.reduceLeDiff, Nat.reduceAdd, Nat.reduceSub, Nat.reduceMul, reduceCtorEq, Int.reduceEq, Int.reduceLT, Int.reduceLE, Int.reduceNeg, Int.reduceAdd, Int.reduceSub], by simp only [↓wA, wB, wZ, repeatV, RX.evs, spl, over, ones, Ex.ends, evR, oneOf, top, ↓reduceIte, Nat.reduceEqDiff, Nat.reduceLeDiff, Nat.reduceAdd, Nat.reduceSub, Nat.reduceMul, reduceCtorEq, Int.reduceEq, Int.reduceLT, Int.reduceLE, Int.reduceNeg, Int.reduceAdd, Int.reduceSub] <;> rfl, by omega, rfl, ⟨by simp [strsV], by simp⟩, Ext.refl _⟩
  · rintro r h' ⟨i, v, r4, r8, r9, r10, hi, hall, hv, hx⟩
    unfold c18l1
    by_cases hlt : i < ws.length
    · have g0 : ((i : Int) < (ws.length : Int)) = True := eq_true (by omega)
      obtain ⟨b1, o1, ia1, at1⟩ := (H.ext hx).ia (k := .i64) hlt
      have ld1 := at1.ldn (i := i * 4) (n := 4) (by rw [wisV_len]; omega)
      rw [wisV_at ws i hlt] at ld1
      have w : IntKind.i64.wrap ((i : Int) + 1) = ((i + 1 : Nat) : Int) := by rw [wrap_i64 (by omega) (by omega)]; rfl
      have hwt := ht ws[i] (List.getElem_mem hlt)
      have hmay : ws[i].may = mayM ws[i].kind ws[i].num ws[i].text := rfl
      have hout : ws[i].out = writtenM ws[i].kind ws[i].num ws[i].text := rfl
      have hno : ws[i].may = false → writeM ws = ([], 2) := by
        intro q
        unfold writeM
        rw [if_neg]
        rw [List.all_eq_true]
        intro q2
        rw [q2 _ (List.getElem_mem hlt)] at q
        cases q
      have htake : ws.take (i + 1) = ws.take i ++ [ws[i]] := (List.take_append_getElem hlt).symm
      unfold Wi.enc at ld1
      generalize ws[i] = wd at *
      obtain ⟨k, n, p, s⟩ := wd
      simp only at *
      simp +contextual only [r4, r8, r9, r10, g0, ia1, ld1, w, ↓wA, wB, wZ, repeatV, RX.evs, spl, over, ones, Ex.ends, evR, oneOf, top, ↓reduceIte, Nat.reduceEqDiff, Nat.reduceLeDiff, Nat.reduceAdd, Nat.reduceSub, Nat.reduceMul, reduceCtorEq, Int.reduceEq, Int.reduceLT, Int.reduceLE, Int.reduceNeg, Int.reduceAdd, Int.reduceSub]
      have hx1 : Ext h' ((h'.new (.ofL [.int .i64 0, .int .i64 0, .int .i64 0, .str []] 0 false)).set (pa h'.next) (.ofL [.int .i64 k, .int .i64 n, .int .i64 p, .str s] 0 false)) := ((Ext.refl h').new _).set (Nat.le_refl _) _
      have g1 : ((h'.new (.ofL [.int .i64 0, .int .i64 0, .int .i64 0, .str []] 0 false)).set (pa h'.next) (.ofL [.int .i64 k, .int .i64 n, .int .i64 p, .str s] 0 false)).get (pa h'.next) = .ofL [.int .i64 k, .int .i64 n, .int .i64 p, .str s] 0 false := by rw [get_set, if_pos rfl]
      have n1 : ((h'.new (.ofL [.int .i64 0, .int .i64 0, .int .i64 0, .str []] 0 false)).set (pa h'.next) (.ofL [.int .i64 k, .int .i64 n, .int .i64 p, .str s] 0 false)).next = h'.next + 1 := by rw [next_set, next_new]
      generalize ((h'.new (.ofL [.int .i64 0, .int .i64 0, .int .i64 0, .str []] 0 false)).set (pa h'.next) (.ofL [.int .i64 k, .int .i64 n, .int .i64 p, .str s] 0 false)) = H1 at hx1 g1 n1 ⊢
      refine callK_intro (may_ctr k n p s (by omega) H1) ?_
      rintro x h2 ⟨rfl, hx2⟩
      have g2 : h2.get (pa h'.next) = .ofL [.int .i64 k, .int .i64 n, .int .i64 p, .str s] 0 false := by rw [hx2.get _ (old_lt (by omega)), g1]
      have hxx : Ext h h2 := (hx.trans hx1).trans hx2
      have hv2 := (hv.ext hx1).ext hx2
      cases hm : mayM k n s with
      | false =>
        simp +contextual only [↓wA, wB, wZ, repeatV, RX.evs, spl, over, ones, Ex.ends, evR, oneOf, top, ↓reduceIte, Nat.reduceEqDiff, Nat.reduceLeDiff, Nat.reduceAdd, Nat.reduceSub, Nat.reduceMul, reduceCtorEq, Int.reduceEq, Int.reduceLT, Int.reduceLE, Int.reduceNeg, Int.reduceAdd, Int.reduceSub]
        rw [hno (hmay.trans hm)]
        exact ⟨rfl, hxx⟩
      | true =>
        have on : ∀ h3, Ext h2 h3 → ∃ v' h4, appV 1 v (.slice (pa h3.next) 0 1 1) (h3.new (.ofL [.str (writtenM k n s)] 0 false)) = .val v' h4 ∧ SlO h.next h4 1 v' (i + 1) (strsV ((ws.take (i + 1)).map Wi.out)) ∧ Ext h h4 := by
          intro h3 hx3
          have hx4 := hxx.trans hx3
          obtain ⟨v', h4, q1, q2, q3, q4, q5⟩ := app_bsl (m := 1) (cs := [.str (writtenM k n s)]) (by omega) (hv2.ext hx3) hx4.next (by unfold top; omega) rfl rfl
          refine ⟨v', h4, q1, ?_, hx4.mod_new q3 (fun b hb => hv.base hb)⟩
          rw [htake, List.map_append]
          unfold strsV at q2 ⊢
          rw [List.map_append]
          simpa [hout] using q2
        have hall2 : (ws.take (i + 1)).all Wi.may = true := by
          rw [htake, List.all_append, hall]
          simp [hmay, hm]
        by_cases h1 : k = 1
        · subst h1
          rw [mayM1] at hm
          simp only [Bool.and_eq_true, decide_eq_true_eq] at hm
          have ha := and31 hm.1.2 hm.2
          simp +contextual only [g2, ha, ↓wA, wB, wZ, repeatV, RX.evs, spl, over, ones, Ex.ends, evR, oneOf, top, ↓reduceIte, Nat.reduceEqDiff, Nat.reduceLeDiff, Nat.reduceAdd, Nat.reduceSub, Nat.reduceMul, reduceCtorEq, Int.reduceEq, Int.reduceLT, Int.reduceLE, Int.reduceNeg, Int.reduceAdd, Int.reduceSub]
          refine callK_pure (itoa_calls (if n < 0 then n + 2147483648 else n) (by split <;> omega) (by split <;> omega) h2) ?_
          obtain ⟨v', h4, q1, q2, q3⟩ := on h2 (Ext.refl _)
          rw [show writtenM 1 n s = Lib.itoa (if n < 0 then n + 2147483648 else n) from rfl] at q1
          simp +contextual only [r4, r8, r9, r10, q1, w, ↓wA, wB, wZ, repeatV, RX.evs, spl, over, ones, Ex.ends, evR, oneOf, top, ↓reduceIte, Nat.reduceEqDiff, Nat.reduceLeDiff, Nat.reduceAdd, Nat.reduceSub, Nat.reduceMul, reduceCtorEq, Int.reduceEq, Int.reduceLT, Int.reduceLE, Int.reduceNeg, Int.reduceAdd, Int.reduceSub]
          exact ⟨⟨i + 1, rfl, hlt, hall2, q2, q3⟩, by omega⟩
        have k1 := eq_false h1
        by_cases h2' : k = 2
        · subst h2'
          simp +contextual only [g2, ↓wA, wB, wZ, repeatV, RX.evs, spl, over, ones, Ex.ends, evR, oneOf, top, ↓reduceIte, Nat.reduceEqDiff, Nat.reduceLeDiff, Nat.reduceAdd, Nat.reduceSub, Nat.reduceMul, reduceCtorEq, Int.reduceEq, Int.reduceLT, Int.reduceLE, Int.reduceNeg, Int.reduceAdd, Int.reduceSub]
          refine callK_intro (quoted_ctr s (by omega) h2) ?_
          rintro x h3 ⟨rfl, hx3⟩
          obtain ⟨v', h4, q1, q2, q3⟩ := on h3 hx3
          rw [show writtenM 2 n s = quotedM s from rfl] at q1
          simp +contextual only [r4, r8, r9, r10, q1, w, ↓wA, wB, wZ, repeatV, RX.evs, spl, over, ones, Ex.ends, evR, oneOf, top, ↓reduceIte, Nat.reduceEqDiff, Nat.reduceLeDiff, Nat.reduceAdd, Nat.reduceSub, Nat.reduceMul, reduceCtorEq, Int.reduceEq, Int.reduceLT, Int.reduceLE, Int.reduceNeg, Int.reduceAdd, Int.reduceSub]
          exact ⟨⟨i + 1, rfl, hlt, hall2, q2, q3⟩, by omega⟩
        have k2 := eq_false h2'
        obtain ⟨v', h4, q1, q2, q3⟩ := on h2 (Ext.refl _)
        by_cases h5 : k = 5
        · subst h5
          have hlt1 : (1 + s.length ≤ 17179869184) = True := eq_true (by omega)
          rw [show writtenM 5 n s = 39 :: s from rfl] at q1
          simp +contextual only [g2, hlt1, List.cons_append, List.nil_append, r4, r8, r9, r10, q1, w, ↓wA, wB, wZ, repeatV, RX.evs, spl, over, ones, Ex.ends, evR, oneOf, top, ↓reduceIte, Nat.reduceEqDiff, Nat.reduceLeDiff, Nat.reduceAdd, Nat.reduceSub, Nat.reduceMul, reduceCtorEq, Int.reduceEq, Int.reduceLT, Int.reduceLE, Int.reduceNeg, Int.reduceAdd, Int.reduceSub]
          exact ⟨⟨i + 1, rfl, hlt, hall2, q2, q3⟩, by omega⟩
        · have k5 := eq_false h5
          rw [show writtenM k n s = s by unfold writtenM; rw [if_neg h1, if_neg h2', if_neg h5]] at q1
          simp +contextual only [g2, k1, k2, k5, r4, r8, r9, r10, q1, w, ↓wA, wB, wZ, repeatV, RX.evs, spl, over, ones, Ex.ends, evR, oneOf, top, ↓reduceIte, Nat.reduceEqDiff, Nat.reduceLeDiff, Nat.reduceAdd, Nat.reduceSub, Nat.reduceMul, reduceCtorEq, Int.reduceEq, Int.reduceLT, Int.reduceLE, Int.reduceNeg, Int.reduceAdd, Int.reduceSub]
          exact ⟨⟨i + 1, rfl, hlt, hall2, q2, q3⟩, by omega⟩
    · have hi' : i = ws.length := by omega
      have g0 : ((i : Int) < (ws.length : Int)) = False := eq_false (by omega)
      rw [hi', List.take_length] at hv hall
      have hw : writeM ws = (Lib.join (ws.map Wi.out) [32], 0) := by unfold writeM; rw [if_pos hall]
      have hlen : (ws.map Wi.out).length = ws.length := List.length_map _
      have hjl : (Lib.join (ws.map Wi.out) [32]).length ≤ 1000000000 := by
        have := join_len 20002 (ws.map Wi.out) (by
          intro x hx
          obtain ⟨q, hq, rfl⟩ := List.mem_map.1 hx
          exact out_len (List.all_eq_true.1 hall _ hq) (ht _ hq))
        rw [hlen] at this
        have h2 : ws.length * 20003 ≤ 10000 * 20003 := Nat.mul_le_mul_right _ hl
        omega
      have hv3 : SlV h' 1 v (ws.map Wi.out).length (strsV (ws.map Wi.out)) := by rw [hlen]; exact hv.v
      simp +contextual only [r4, r8, r9, r10, g0, ↓wA, wB, wZ, repeatV, RX.evs, spl, over, ones, Ex.ends, evR, oneOf, top, ↓reduceIte, Nat.reduceEqDiff, Nat.reduceLeDiff, Nat.reduceAdd, Nat.reduceSub, Nat.reduceMul, reduceCtorEq, Int.reduceEq, Int.reduceLT, Int.reduceLE, Int.reduceNeg, Int.reduceAdd, Int.reduceSub]
      refine callK_pure (join_calls (ws.map Wi.out) [32] v h' hv3 (by omega) hjl) ?_
      rw [hw]
      simp +contextual only [↓wA, wB, wZ, repeatV, RX.evs, spl, over, ones, Ex.ends, evR, oneOf, top, ↓reduceIte, Nat.reduceEqDiff, Nat.reduceLeDiff, Nat.reduceAdd, Nat.reduceSub, Nat.reduceMul, reduceCtorEq, Int.reduceEq, Int.reduceLT, Int.reduceLE, Int.reduceNeg, Int.reduceAdd, Int.reduceSub]
      exact hx
end Go.Proofs.YthcgccnbhdociaaDoor

namespace Go.Proofs.YthcgccnbhdociaaDoor
open Go Am
set_option linter.unusedSectionVars false
set_option linter.unusedSimpArgs false
set_option linter.unusedVariables false

/-! The document's Named and may. -/
theorem headSmall_at {s : List UInt8} {c : UInt8} {r : List UInt8} (h : s = c :: r) : headSmall s = smallB c.toNat := by rw [h]; rfl
theorem refnamed_ctr (k : Int) (s : List UInt8) (hs : s.length ≤ 100000) (hk : k = 3 ∨ k = 4 ∨ k = 5) (h : Heap) : Ctr Tryd.prog 69 [.int .i64 k, .str s] h fun x h' => x = .bool (namedM k s) ∧ Ext h h' := by
  refine c69_ctr rfl (wpK_of ?_)
  unfold c69
  by_cases hnil : s = []
  · subst hnil
    simp +contextual only [↓wA, wB, wZ, repeatV, RX.evs, spl, over, ones, Ex.ends, evR, oneOf, top, ↓reduceIte, Nat.reduceEqDiff, Nat.reduceLeDiff, Nat.reduceAdd, Nat.reduceSub, Nat.reduceMul, reduceCtorEq, Int.reduceEq, Int.reduceLT, Int.reduceLE, Int.reduceNeg, Int.reduceAdd, Int.reduceSub]
    exact ⟨rfl, Ext.refl _⟩
  obtain ⟨c, r, hsc⟩ := List.exists_cons_of_ne_nil hnil
  have e0 : (s = ([] : List UInt8)) = False := eq_false hnil
  have hs0 : s[0]? = some c := by rw [hsc]; rfl
  by_cases hlen : (64 : Int) < (s.length : Int)
  · have hn : namedM k s = false := by
      unfold namedM
      rw [decide_eq_false (show ¬ s.length ≤ 64 by omega)]
      simp
    have hlen' := eq_true hlen
    simp +contextual only [e0, hlen', hn, ↓wA, wB, wZ, repeatV, RX.evs, spl, over, ones, Ex.ends, evR, oneOf, top, ↓reduceIte, Nat.reduceEqDiff, Nat.reduceLeDiff, Nat.reduceAdd, Nat.reduceSub, Nat.reduceMul, reduceCtorEq, Int.reduceEq, Int.reduceLT, Int.reduceLE, Int.reduceNeg, Int.reduceAdd, Int.reduceSub]
    exact Ext.refl _
  have hlen' := eq_false hlen
  simp +contextual only [e0, hlen', ↓wA, wB, wZ, repeatV, RX.evs, spl, over, ones, Ex.ends, evR, oneOf, top, ↓reduceIte, Nat.reduceEqDiff, Nat.reduceLeDiff, Nat.reduceAdd, Nat.reduceSub, Nat.reduceMul, reduceCtorEq, Int.reduceEq, Int.reduceLT, Int.reduceLE, Int.reduceNeg, Int.reduceAdd, Int.reduceSub]
  refine loopK_intro (fun r h' => h' = h ∧ r 0 = .int .i64 k ∧ r 1 = .str s ∧ ∃ i : Nat, r 5 = .int .i64 i ∧ i ≤ s.length ∧ s.all ltr = (s.drop i).all ltr) (fun r h' => s.length - (r 5).toN) ?_ ?_
  · exact ⟨rfl, by simp only [↓wA, wB, wZ, repeatV, RX.evs, spl, over, ones, Ex.ends, evR, oneOf, top, ↓reduceIte, Nat.reduceEqDiff, Nat.reduceLeDiff, Nat.reduceAdd, Nat.reduceSub, Nat.reduceMul, reduceCtorEq, Int.reduceEq, Int.reduceLT, Int.reduceLE, Int.reduceNeg, Int.reduceAdd, Int.reduceSub], by simp only [↓wA, wB, wZ, repeatV, RX.evs, spl, over, ones, Ex.ends, evR, oneOf, top, ↓reduceIte, Nat.reduceEqDiff, Nat.reduceLeDiff, Nat.reduceAdd, Nat.reduceSub, Nat.reduceMul, reduceCtorEq, Int.reduceEq, Int.reduceLT, Int.reduceLE, Int.reduceNeg, Int.reduceAdd, Int.reduceSub], 0, by simp only [↓wA, wB, wZ, repeatV, RX.evs, spl, over, ones, Ex.ends, evR, oneOf, top, ↓reduceIte, Nat.reduceEqDiff, Nat.reduceLeDiff, Nat.reduceAdd, Nat.reduceSub, Nat.reduceMul, reduceCtorEq, Int.reduceEq, Int.reduceLT, Int.reduceLE, Int.reduceNeg, Int.reduceAdd, Int.reduceSub] <;> rfl, by omega, rfl⟩
  · rintro R h' ⟨rfl, r0, r1, i, r5, hi, hok⟩
    unfold c69l1
    by_cases hlt : i < s.length
    · have g0 : ((i : Int) < (s.length : Int)) = True := eq_true (by omega)
      have g1 : (0 ≤ (i : Int)) = True := eq_true (by omega)
      rw [List.drop_eq_getElem_cons hlt, List.all_cons] at hok
      have w : IntKind.i64.wrap ((i : Int) + 1) = ((i + 1 : Nat) : Int) := by rw [wrap_i64 (by omega) (by omega)]; rfl
      simp +contextual only [r0, r1, r5, g0, g1, List.getElem?_eq_getElem hlt, Int.toNat_natCast, ↓wA, wB, wZ, repeatV, RX.evs, spl, over, ones, Ex.ends, evR, oneOf, top, ↓reduceIte, Nat.reduceEqDiff, Nat.reduceLeDiff, Nat.reduceAdd, Nat.reduceSub, Nat.reduceMul, reduceCtorEq, Int.reduceEq, Int.reduceLT, Int.reduceLE, Int.reduceNeg, Int.reduceAdd, Int.reduceSub]
      refine callK_pure (Letter_pure _ _) ?_
      rw [show (withinB (s[i].toNat : Int) 97 122 || withinB (s[i].toNat : Int) 65 90 || withinB (s[i].toNat : Int) 48 57 || decide ((s[i].toNat : Int) = 95) || decide ((s[i].toNat : Int) = 39)) = ltr s[i] from letterI_ltr _]
      cases hl : ltr s[i] with
      | true =>
        simp +contextual only [r0, r1, r5, w, ↓wA, wB, wZ, repeatV, RX.evs, spl, over, ones, Ex.ends, evR, oneOf, top, ↓reduceIte, Nat.reduceEqDiff, Nat.reduceLeDiff, Nat.reduceAdd, Nat.reduceSub, Nat.reduceMul, reduceCtorEq, Int.reduceEq, Int.reduceLT, Int.reduceLE, Int.reduceNeg, Int.reduceAdd, Int.reduceSub]
        exact ⟨⟨i + 1, rfl, hlt, by rw [hok, hl, Bool.true_and]⟩, by omega⟩
      | false =>
        have hn : namedM k s = false := by
          unfold namedM
          rw [hok, hl]
          simp
        simp +contextual only [hn, ↓wA, wB, wZ, repeatV, RX.evs, spl, over, ones, Ex.ends, evR, oneOf, top, ↓reduceIte, Nat.reduceEqDiff, Nat.reduceLeDiff, Nat.reduceAdd, Nat.reduceSub, Nat.reduceMul, reduceCtorEq, Int.reduceEq, Int.reduceLT, Int.reduceLE, Int.reduceNeg, Int.reduceAdd, Int.reduceSub]
        exact Ext.refl _
    · have g0 : ((i : Int) < (s.length : Int)) = False := eq_false (by omega)
      rw [List.drop_eq_nil_of_le (by omega)] at hok
      have hall : s.all ltr = true := by rw [hok]; rfl
      have f1 : ((0 : Int) < (s.length : Int)) = True := eq_true (by rw [hsc]; simp only [List.length_cons]; omega)
      have hn : namedM k s = (if k = 3 then (headSmall s || s.head? == some 95) && !decide (s = [95]) && !keyB s else if k = 4 then headGreat s else headSmall s) := by
        unfold namedM
        rw [hall, decide_eq_true (show s.length ≤ 64 by omega), decide_eq_true (show s ≠ [] from hnil)]
        simp
      rw [hn]
      have hb : (headSmall s || s.head? == some 95) = (smallB c.toNat || decide (c = 95)) := by
        rw [hsc]
        show (smallB c.toNat || (some c == some 95)) = _
        congr 1
      have hsml : headSmall s = smallB c.toNat := headSmall_at hsc
      have hgrt : headGreat s = greatB c.toNat := by rw [hsc]; rfl
      rw [hb]
      have hu : ((c.toNat : Int) = 95) = (c = 95) := u8_eq c 95 (by omega)
      rcases hk with rfl | rfl | rfl
      · simp +contextual only [r0, r1, r5, g0, f1, hs0, Int.toNat_zero, if_true, ↓wA, wB, wZ, repeatV, RX.evs, spl, over, ones, Ex.ends, evR, oneOf, top, ↓reduceIte, Nat.reduceEqDiff, Nat.reduceLeDiff, Nat.reduceAdd, Nat.reduceSub, Nat.reduceMul, reduceCtorEq, Int.reduceEq, Int.reduceLT, Int.reduceLE, Int.reduceNeg, Int.reduceAdd, Int.reduceSub]
        refine callK_pure (within_pure _ _ _ _) ?_
        rw [show withinB (c.toNat : Int) 97 122 = smallB (c.toNat : Int) from rfl]
        cases hsm : smallB (c.toNat : Int) with
        | false =>
          by_cases h95c : c = 95
          · have h95 := eq_true h95c
            by_cases h1 : s = [95]
            · have h1' := eq_true h1
              simp +contextual only [r0, r1, hsm, hu, h95, h1', f1, hs0, Int.toNat_zero, ↓wA, wB, wZ, repeatV, RX.evs, spl, over, ones, Ex.ends, evR, oneOf, top, ↓reduceIte, Nat.reduceEqDiff, Nat.reduceLeDiff, Nat.reduceAdd, Nat.reduceSub, Nat.reduceMul, reduceCtorEq, Int.reduceEq, Int.reduceLT, Int.reduceLE, Int.reduceNeg, Int.reduceAdd, Int.reduceSub]
              exact Ext.refl _
            · have h1' := eq_false h1
              simp +contextual only [r0, r1, hsm, hu, h95, h1', f1, hs0, Int.toNat_zero, ↓wA, wB, wZ, repeatV, RX.evs, spl, over, ones, Ex.ends, evR, oneOf, top, ↓reduceIte, Nat.reduceEqDiff, Nat.reduceLeDiff, Nat.reduceAdd, Nat.reduceSub, Nat.reduceMul, reduceCtorEq, Int.reduceEq, Int.reduceLT, Int.reduceLE, Int.reduceNeg, Int.reduceAdd, Int.reduceSub]
              refine callK_intro (keys_ctr _) ?_
              rintro x h1 ⟨rfl, rfl⟩
              simp +contextual only [r0, r1, hsm, hu, h95, h1', f1, hs0, ↓wA, wB, wZ, repeatV, RX.evs, spl, over, ones, Ex.ends, evR, oneOf, top, ↓reduceIte, Nat.reduceEqDiff, Nat.reduceLeDiff, Nat.reduceAdd, Nat.reduceSub, Nat.reduceMul, reduceCtorEq, Int.reduceEq, Int.reduceLT, Int.reduceLE, Int.reduceNeg, Int.reduceAdd, Int.reduceSub]
              refine callK_pure (in_pure s keyList _ 20 _ (by decide) (by rw [get_new_self])) ?_
              have hkb : keyList.contains s = keyB s := rfl
              rw [hkb]
              simp +contextual only [r0, r1, hsm, hu, h95, h1', ↓wA, wB, wZ, repeatV, RX.evs, spl, over, ones, Ex.ends, evR, oneOf, top, ↓reduceIte, Nat.reduceEqDiff, Nat.reduceLeDiff, Nat.reduceAdd, Nat.reduceSub, Nat.reduceMul, reduceCtorEq, Int.reduceEq, Int.reduceLT, Int.reduceLE, Int.reduceNeg, Int.reduceAdd, Int.reduceSub]
              exact (Ext.refl _).new _
          · have h95 := eq_false h95c
            simp +contextual only [r0, r1, hsm, hu, h95, f1, hs0, Int.toNat_zero, ↓wA, wB, wZ, repeatV, RX.evs, spl, over, ones, Ex.ends, evR, oneOf, top, ↓reduceIte, Nat.reduceEqDiff, Nat.reduceLeDiff, Nat.reduceAdd, Nat.reduceSub, Nat.reduceMul, reduceCtorEq, Int.reduceEq, Int.reduceLT, Int.reduceLE, Int.reduceNeg, Int.reduceAdd, Int.reduceSub]
            exact Ext.refl _
        | true =>
          have h95 : True = True := rfl
          by_cases h1 : s = [95]
          · have h1' := eq_true h1
            simp +contextual only [r0, r1, hsm, hu, h95, h1', f1, hs0, Int.toNat_zero, ↓wA, wB, wZ, repeatV, RX.evs, spl, over, ones, Ex.ends, evR, oneOf, top, ↓reduceIte, Nat.reduceEqDiff, Nat.reduceLeDiff, Nat.reduceAdd, Nat.reduceSub, Nat.reduceMul, reduceCtorEq, Int.reduceEq, Int.reduceLT, Int.reduceLE, Int.reduceNeg, Int.reduceAdd, Int.reduceSub]
            exact Ext.refl _
          · have h1' := eq_false h1
            simp +contextual only [r0, r1, hsm, hu, h95, h1', f1, hs0, Int.toNat_zero, ↓wA, wB, wZ, repeatV, RX.evs, spl, over, ones, Ex.ends, evR, oneOf, top, ↓reduceIte, Nat.reduceEqDiff, Nat.reduceLeDiff, Nat.reduceAdd, Nat.reduceSub, Nat.reduceMul, reduceCtorEq, Int.reduceEq, Int.reduceLT, Int.reduceLE, Int.reduceNeg, Int.reduceAdd, Int.reduceSub]
            refine callK_intro (keys_ctr _) ?_
            rintro x h1 ⟨rfl, rfl⟩
            simp +contextual only [r0, r1, hsm, hu, h95, h1', f1, hs0, ↓wA, wB, wZ, repeatV, RX.evs, spl, over, ones, Ex.ends, evR, oneOf, top, ↓reduceIte, Nat.reduceEqDiff, Nat.reduceLeDiff, Nat.reduceAdd, Nat.reduceSub, Nat.reduceMul, reduceCtorEq, Int.reduceEq, Int.reduceLT, Int.reduceLE, Int.reduceNeg, Int.reduceAdd, Int.reduceSub]
            refine callK_pure (in_pure s keyList _ 20 _ (by decide) (by rw [get_new_self])) ?_
            have hkb : keyList.contains s = keyB s := rfl
            rw [hkb]
            simp +contextual only [r0, r1, hsm, hu, h95, h1', ↓wA, wB, wZ, repeatV, RX.evs, spl, over, ones, Ex.ends, evR, oneOf, top, ↓reduceIte, Nat.reduceEqDiff, Nat.reduceLeDiff, Nat.reduceAdd, Nat.reduceSub, Nat.reduceMul, reduceCtorEq, Int.reduceEq, Int.reduceLT, Int.reduceLE, Int.reduceNeg, Int.reduceAdd, Int.reduceSub]
            exact (Ext.refl _).new _
      · simp +contextual only [r0, r1, r5, g0, f1, hs0, Int.toNat_zero, if_true, if_false, ↓wA, wB, wZ, repeatV, RX.evs, spl, over, ones, Ex.ends, evR, oneOf, top, ↓reduceIte, Nat.reduceEqDiff, Nat.reduceLeDiff, Nat.reduceAdd, Nat.reduceSub, Nat.reduceMul, reduceCtorEq, Int.reduceEq, Int.reduceLT, Int.reduceLE, Int.reduceNeg, Int.reduceAdd, Int.reduceSub]
        refine callK_pure (within_pure _ _ _ _) ?_
        rw [hgrt]
        simp +contextual only [↓wA, wB, wZ, repeatV, RX.evs, spl, over, ones, Ex.ends, evR, oneOf, top, ↓reduceIte, Nat.reduceEqDiff, Nat.reduceLeDiff, Nat.reduceAdd, Nat.reduceSub, Nat.reduceMul, reduceCtorEq, Int.reduceEq, Int.reduceLT, Int.reduceLE, Int.reduceNeg, Int.reduceAdd, Int.reduceSub]
        exact ⟨rfl, Ext.refl _⟩
      · simp +contextual only [r0, r1, r5, g0, f1, hs0, Int.toNat_zero, if_true, if_false, ↓wA, wB, wZ, repeatV, RX.evs, spl, over, ones, Ex.ends, evR, oneOf, top, ↓reduceIte, Nat.reduceEqDiff, Nat.reduceLeDiff, Nat.reduceAdd, Nat.reduceSub, Nat.reduceMul, reduceCtorEq, Int.reduceEq, Int.reduceLT, Int.reduceLE, Int.reduceNeg, Int.reduceAdd, Int.reduceSub]
        refine callK_pure (within_pure _ _ _ _) ?_
        rw [hsml]
        simp +contextual only [↓wA, wB, wZ, repeatV, RX.evs, spl, over, ones, Ex.ends, evR, oneOf, top, ↓reduceIte, Nat.reduceEqDiff, Nat.reduceLeDiff, Nat.reduceAdd, Nat.reduceSub, Nat.reduceMul, reduceCtorEq, Int.reduceEq, Int.reduceLT, Int.reduceLE, Int.reduceNeg, Int.reduceAdd, Int.reduceSub]
        exact ⟨rfl, Ext.refl _⟩

theorem refmay_ctr (k n p : Int) (s : List UInt8) (hs : s.length ≤ 90000) (h : Heap) : Ctr Tryd.prog 40 [.agg [.int .i64 k, .int .i64 n, .int .i64 p, .str s]] h fun x h' => x = .bool (mayM k n s) ∧ Ext h h' := by
  refine c40_ctr rfl (wpK_of ?_)
  unfold c40
  have hx : Ext h (h.new (.ofL [.int .i64 k, .int .i64 n, .int .i64 p, .str s] 0 false)) := (Ext.refl h).new _
  by_cases h1 : k = 1
  · subst h1
    rw [mayM1]
    by_cases e2 : -1073741824 ≤ n
    · have e2' := eq_true e2
      by_cases e3 : n ≤ 1073741823
      · have e3' := eq_true e3
        simp +contextual only [e2', e3', ↓wA, wB, wZ, repeatV, RX.evs, spl, over, ones, Ex.ends, evR, oneOf, top, ↓reduceIte, Nat.reduceEqDiff, Nat.reduceLeDiff, Nat.reduceAdd, Nat.reduceSub, Nat.reduceMul, reduceCtorEq, Int.reduceEq, Int.reduceLT, Int.reduceLE, Int.reduceNeg, Int.reduceAdd, Int.reduceSub]
        exact hx
      · have e3' := eq_false e3
        simp +contextual only [e2', e3', ↓wA, wB, wZ, repeatV, RX.evs, spl, over, ones, Ex.ends, evR, oneOf, top, ↓reduceIte, Nat.reduceEqDiff, Nat.reduceLeDiff, Nat.reduceAdd, Nat.reduceSub, Nat.reduceMul, reduceCtorEq, Int.reduceEq, Int.reduceLT, Int.reduceLE, Int.reduceNeg, Int.reduceAdd, Int.reduceSub]
        exact hx
    · have e2' := eq_false e2
      simp +contextual only [e2', ↓wA, wB, wZ, repeatV, RX.evs, spl, over, ones, Ex.ends, evR, oneOf, top, ↓reduceIte, Nat.reduceEqDiff, Nat.reduceLeDiff, Nat.reduceAdd, Nat.reduceSub, Nat.reduceMul, reduceCtorEq, Int.reduceEq, Int.reduceLT, Int.reduceLE, Int.reduceNeg, Int.reduceAdd, Int.reduceSub]
      exact hx
  by_cases h2 : k = 2
  · subst h2
    rw [mayM2]
    have hl : ((s.length : Int) ≤ 4096) = (s.length ≤ 4096) := propext ⟨fun q => by omega, fun q => by omega⟩
    by_cases e1 : n = 0
    · have e1' := eq_true e1
      simp +contextual only [e1', hl, ↓wA, wB, wZ, repeatV, RX.evs, spl, over, ones, Ex.ends, evR, oneOf, top, ↓reduceIte, Nat.reduceEqDiff, Nat.reduceLeDiff, Nat.reduceAdd, Nat.reduceSub, Nat.reduceMul, reduceCtorEq, Int.reduceEq, Int.reduceLT, Int.reduceLE, Int.reduceNeg, Int.reduceAdd, Int.reduceSub]
      exact hx
    · have e1' := eq_false e1
      simp +contextual only [e1', ↓wA, wB, wZ, repeatV, RX.evs, spl, over, ones, Ex.ends, evR, oneOf, top, ↓reduceIte, Nat.reduceEqDiff, Nat.reduceLeDiff, Nat.reduceAdd, Nat.reduceSub, Nat.reduceMul, reduceCtorEq, Int.reduceEq, Int.reduceLT, Int.reduceLE, Int.reduceNeg, Int.reduceAdd, Int.reduceSub]
      exact hx
  by_cases h345 : k = 3 ∨ k = 4 ∨ k = 5
  · rcases h345 with rfl | rfl | rfl
    · rw [mayM3]
      by_cases e1 : n = 0
      · have e1' := eq_true e1
        simp +contextual only [e1', ↓wA, wB, wZ, repeatV, RX.evs, spl, over, ones, Ex.ends, evR, oneOf, top, ↓reduceIte, Nat.reduceEqDiff, Nat.reduceLeDiff, Nat.reduceAdd, Nat.reduceSub, Nat.reduceMul, reduceCtorEq, Int.reduceEq, Int.reduceLT, Int.reduceLE, Int.reduceNeg, Int.reduceAdd, Int.reduceSub]
        refine callK_intro (refnamed_ctr 3 s (by omega) (.inl rfl) _) ?_
        rintro x h2 ⟨rfl, hx2⟩
        simp +contextual only [↓wA, wB, wZ, repeatV, RX.evs, spl, over, ones, Ex.ends, evR, oneOf, top, ↓reduceIte, Nat.reduceEqDiff, Nat.reduceLeDiff, Nat.reduceAdd, Nat.reduceSub, Nat.reduceMul, reduceCtorEq, Int.reduceEq, Int.reduceLT, Int.reduceLE, Int.reduceNeg, Int.reduceAdd, Int.reduceSub]
        exact hx.trans hx2
      · have e1' := eq_false e1
        simp +contextual only [e1', ↓wA, wB, wZ, repeatV, RX.evs, spl, over, ones, Ex.ends, evR, oneOf, top, ↓reduceIte, Nat.reduceEqDiff, Nat.reduceLeDiff, Nat.reduceAdd, Nat.reduceSub, Nat.reduceMul, reduceCtorEq, Int.reduceEq, Int.reduceLT, Int.reduceLE, Int.reduceNeg, Int.reduceAdd, Int.reduceSub]
        exact hx
    · rw [mayM4]
      by_cases e1 : n = 0
      · have e1' := eq_true e1
        simp +contextual only [e1', ↓wA, wB, wZ, repeatV, RX.evs, spl, over, ones, Ex.ends, evR, oneOf, top, ↓reduceIte, Nat.reduceEqDiff, Nat.reduceLeDiff, Nat.reduceAdd, Nat.reduceSub, Nat.reduceMul, reduceCtorEq, Int.reduceEq, Int.reduceLT, Int.reduceLE, Int.reduceNeg, Int.reduceAdd, Int.reduceSub]
        refine callK_intro (refnamed_ctr 4 s (by omega) (.inr (.inl rfl)) _) ?_
        rintro x h2 ⟨rfl, hx2⟩
        simp +contextual only [↓wA, wB, wZ, repeatV, RX.evs, spl, over, ones, Ex.ends, evR, oneOf, top, ↓reduceIte, Nat.reduceEqDiff, Nat.reduceLeDiff, Nat.reduceAdd, Nat.reduceSub, Nat.reduceMul, reduceCtorEq, Int.reduceEq, Int.reduceLT, Int.reduceLE, Int.reduceNeg, Int.reduceAdd, Int.reduceSub]
        exact hx.trans hx2
      · have e1' := eq_false e1
        simp +contextual only [e1', ↓wA, wB, wZ, repeatV, RX.evs, spl, over, ones, Ex.ends, evR, oneOf, top, ↓reduceIte, Nat.reduceEqDiff, Nat.reduceLeDiff, Nat.reduceAdd, Nat.reduceSub, Nat.reduceMul, reduceCtorEq, Int.reduceEq, Int.reduceLT, Int.reduceLE, Int.reduceNeg, Int.reduceAdd, Int.reduceSub]
        exact hx
    · rw [mayM5]
      by_cases e1 : n = 0
      · have e1' := eq_true e1
        simp +contextual only [e1', ↓wA, wB, wZ, repeatV, RX.evs, spl, over, ones, Ex.ends, evR, oneOf, top, ↓reduceIte, Nat.reduceEqDiff, Nat.reduceLeDiff, Nat.reduceAdd, Nat.reduceSub, Nat.reduceMul, reduceCtorEq, Int.reduceEq, Int.reduceLT, Int.reduceLE, Int.reduceNeg, Int.reduceAdd, Int.reduceSub]
        refine callK_intro (refnamed_ctr 5 s (by omega) (.inr (.inr rfl)) _) ?_
        rintro x h2 ⟨rfl, hx2⟩
        simp +contextual only [↓wA, wB, wZ, repeatV, RX.evs, spl, over, ones, Ex.ends, evR, oneOf, top, ↓reduceIte, Nat.reduceEqDiff, Nat.reduceLeDiff, Nat.reduceAdd, Nat.reduceSub, Nat.reduceMul, reduceCtorEq, Int.reduceEq, Int.reduceLT, Int.reduceLE, Int.reduceNeg, Int.reduceAdd, Int.reduceSub]
        exact hx.trans hx2
      · have e1' := eq_false e1
        simp +contextual only [e1', ↓wA, wB, wZ, repeatV, RX.evs, spl, over, ones, Ex.ends, evR, oneOf, top, ↓reduceIte, Nat.reduceEqDiff, Nat.reduceLeDiff, Nat.reduceAdd, Nat.reduceSub, Nat.reduceMul, reduceCtorEq, Int.reduceEq, Int.reduceLT, Int.reduceLE, Int.reduceNeg, Int.reduceAdd, Int.reduceSub]
        exact hx
  have h3 : ¬ k = 3 := fun q => h345 (.inl q)
  have h4 : ¬ k = 4 := fun q => h345 (.inr (.inl q))
  have h5 : ¬ k = 5 := fun q => h345 (.inr (.inr q))
  by_cases h6 : k = 6
  · subst h6
    rw [mayM6]
    by_cases e1 : n = 0
    · have e1' := eq_true e1
      simp +contextual (maxSteps := 1000000) only [e1', ↓wA, wB, wZ, repeatV, RX.evs, spl, over, ones, Ex.ends, evR, oneOf, top, ↓reduceIte, Nat.reduceEqDiff, Nat.reduceLeDiff, Nat.reduceAdd, Nat.reduceSub, Nat.reduceMul, reduceCtorEq, Int.reduceEq, Int.reduceLT, Int.reduceLE, Int.reduceNeg, Int.reduceAdd, Int.reduceSub]
      generalize hH1 : h.new (.ofL [.int .i64 6, .int .i64 n, .int .i64 p, .str s] 0 false) = H1 at hx ⊢
      have g1 : H1.get (pa h.next) = .ofL [.int .i64 6, .int .i64 n, .int .i64 p, .str s] 0 false := by rw [← hH1, get_new_self]
      have o1 : Old H1 (pa h.next) := by rw [← hH1]; exact old_lt (by rw [next_new]; omega)
      refine callK_intro (keys_ctr H1) ?_
      rintro x h2 ⟨rfl, rfl⟩
      have hx2 : Ext H1 (H1.new (.ofL (strsV keyList) 0 false)) := (Ext.refl H1).new _
      have g2 : (H1.new (.ofL (strsV keyList) 0 false)).get (pa h.next) = .ofL [.int .i64 6, .int .i64 n, .int .i64 p, .str s] 0 false := by rw [hx2.get _ o1, g1]
      have g3 : (H1.new (.ofL (strsV keyList) 0 false)).get (pa H1.next) = .ofL (strsV keyList) 0 false := get_new_self _
      generalize H1.new (.ofL (strsV keyList) 0 false) = H2 at hx2 g2 g3 ⊢
      simp +contextual (maxSteps := 1000000) only [e1', g1, g2, ↓wA, wB, wZ, repeatV, RX.evs, spl, over, ones, Ex.ends, evR, oneOf, top, ↓reduceIte, Nat.reduceEqDiff, Nat.reduceLeDiff, Nat.reduceAdd, Nat.reduceSub, Nat.reduceMul, reduceCtorEq, Int.reduceEq, Int.reduceLT, Int.reduceLE, Int.reduceNeg, Int.reduceAdd, Int.reduceSub]
      refine callK_pure (in_pure s keyList (pa H1.next) 20 H2 (by decide) g3) ?_
      have hkb : keyList.contains s = keyB s := rfl
      rw [hkb]
      simp +contextual (maxSteps := 1000000) only [e1', g1, g2, ↓wA, wB, wZ, repeatV, RX.evs, spl, over, ones, Ex.ends, evR, oneOf, top, ↓reduceIte, Nat.reduceEqDiff, Nat.reduceLeDiff, Nat.reduceAdd, Nat.reduceSub, Nat.reduceMul, reduceCtorEq, Int.reduceEq, Int.reduceLT, Int.reduceLE, Int.reduceNeg, Int.reduceAdd, Int.reduceSub]
      exact hx.trans hx2
    · have e1' := eq_false e1
      simp +contextual (maxSteps := 1000000) only [e1', ↓wA, wB, wZ, repeatV, RX.evs, spl, over, ones, Ex.ends, evR, oneOf, top, ↓reduceIte, Nat.reduceEqDiff, Nat.reduceLeDiff, Nat.reduceAdd, Nat.reduceSub, Nat.reduceMul, reduceCtorEq, Int.reduceEq, Int.reduceLT, Int.reduceLE, Int.reduceNeg, Int.reduceAdd, Int.reduceSub]
      exact hx
  by_cases h7 : k = 7
  · subst h7
    rw [mayM7]
    by_cases e1 : n = 0
    · have e1' := eq_true e1
      simp +contextual (maxSteps := 1000000) only [e1', ↓wA, wB, wZ, repeatV, RX.evs, spl, over, ones, Ex.ends, evR, oneOf, top, ↓reduceIte, Nat.reduceEqDiff, Nat.reduceLeDiff, Nat.reduceAdd, Nat.reduceSub, Nat.reduceMul, reduceCtorEq, Int.reduceEq, Int.reduceLT, Int.reduceLE, Int.reduceNeg, Int.reduceAdd, Int.reduceSub]
      generalize hH1 : h.new (.ofL [.int .i64 7, .int .i64 n, .int .i64 p, .str s] 0 false) = H1 at hx ⊢
      have g1 : H1.get (pa h.next) = .ofL [.int .i64 7, .int .i64 n, .int .i64 p, .str s] 0 false := by rw [← hH1, get_new_self]
      have o1 : Old H1 (pa h.next) := by rw [← hH1]; exact old_lt (by rw [next_new]; omega)
      refine callK_intro (refsigns_ctr H1) ?_
      rintro x h2 ⟨rfl, rfl⟩
      have hx2 : Ext H1 (H1.new (.ofL (strsV signList) 0 false)) := (Ext.refl H1).new _
      have g2 : (H1.new (.ofL (strsV signList) 0 false)).get (pa h.next) = .ofL [.int .i64 7, .int .i64 n, .int .i64 p, .str s] 0 false := by rw [hx2.get _ o1, g1]
      have g3 : (H1.new (.ofL (strsV signList) 0 false)).get (pa H1.next) = .ofL (strsV signList) 0 false := get_new_self _
      generalize H1.new (.ofL (strsV signList) 0 false) = H2 at hx2 g2 g3 ⊢
      simp +contextual (maxSteps := 1000000) only [e1', g1, g2, ↓wA, wB, wZ, repeatV, RX.evs, spl, over, ones, Ex.ends, evR, oneOf, top, ↓reduceIte, Nat.reduceEqDiff, Nat.reduceLeDiff, Nat.reduceAdd, Nat.reduceSub, Nat.reduceMul, reduceCtorEq, Int.reduceEq, Int.reduceLT, Int.reduceLE, Int.reduceNeg, Int.reduceAdd, Int.reduceSub]
      refine callK_pure (in_pure s signList (pa H1.next) 17 H2 (by decide) g3) ?_
      simp +contextual (maxSteps := 1000000) only [e1', g1, g2, ↓wA, wB, wZ, repeatV, RX.evs, spl, over, ones, Ex.ends, evR, oneOf, top, ↓reduceIte, Nat.reduceEqDiff, Nat.reduceLeDiff, Nat.reduceAdd, Nat.reduceSub, Nat.reduceMul, reduceCtorEq, Int.reduceEq, Int.reduceLT, Int.reduceLE, Int.reduceNeg, Int.reduceAdd, Int.reduceSub]
      exact hx.trans hx2
    · have e1' := eq_false e1
      simp +contextual (maxSteps := 1000000) only [e1', ↓wA, wB, wZ, repeatV, RX.evs, spl, over, ones, Ex.ends, evR, oneOf, top, ↓reduceIte, Nat.reduceEqDiff, Nat.reduceLeDiff, Nat.reduceAdd, Nat.reduceSub, Nat.reduceMul, reduceCtorEq, Int.reduceEq, Int.reduceLT, Int.reduceLE, Int.reduceNeg, Int.reduceAdd, Int.reduceSub]
      exact hx
  have hm : mayM k n s = false := by
    unfold mayM
    simp [h1, h2, h345, h6, h7]
  have k1 := eq_false h1
  have k2 := eq_false h2
  have k3 := eq_false h3
  have k4 := eq_false h4
  have k5 := eq_false h5
  have k6 := eq_false h6
  have k7 := eq_false h7
  rw [hm]
  simp +contextual only [k1, k2, k3, k4, k5, k6, k7, ↓wA, wB, wZ, repeatV, RX.evs, spl, over, ones, Ex.ends, evR, oneOf, top, ↓reduceIte, Nat.reduceEqDiff, Nat.reduceLeDiff, Nat.reduceAdd, Nat.reduceSub, Nat.reduceMul, reduceCtorEq, Int.reduceEq, Int.reduceLT, Int.reduceLE, Int.reduceNeg, Int.reduceAdd, Int.reduceSub]
  exact hx
end Go.Proofs.YthcgccnbhdociaaDoor

namespace Go.Proofs.YthcgccnbhdociaaDoor
open Go Am
set_option linter.unusedSectionVars false
set_option linter.unusedSimpArgs false
set_option linter.unusedVariables false

/-! The document's Write. -/
theorem digit_at {u : Nat} (h : u < 10) : (([48, 49, 50, 51, 52, 53, 54, 55, 56, 57] : List UInt8).drop u).take 1 = [UInt8.ofNat (48 + u)] := by
  revert u
  decide
theorem dec_pure (u : Nat) (hu : u ≤ 4294967296) (h : Heap) : CallsV Tryd.prog 70 [.int .i64 u] h (.str (Lib.decDigits u)) h := by
  induction u using Nat.strongRecOn with
  | _ u ih =>
    refine pure_calls (c70_ctr rfl (wpK_of ?_))
    unfold c70
    rw [Lib.decDigits]
    by_cases h10 : u < 10
    · have g0 : ((u : Int) < 10) = True := eq_true (by omega)
      have g1 : (0 ≤ (u : Int)) = True := eq_true (by omega)
      have w : IntKind.i64.wrap ((u : Int) + 1) = ((u + 1 : Nat) : Int) := by rw [wrap_i64 (by omega) (by omega)]; rfl
      have g2 : ((u : Int) ≤ ((u + 1 : Nat) : Int)) = True := eq_true (by omega)
      have g3 : (((u + 1 : Nat) : Int) ≤ ((10 : Nat) : Int)) = True := eq_true (by omega)
      have hs : sliceStr (.str [48, 49, 50, 51, 52, 53, 54, 55, 56, 57]) (some (.int .i64 (u : Int))) (some (.int .i64 ((u + 1 : Nat) : Int))) none = some (.str [UInt8.ofNat (48 + u)]) := by
        rw [sl_two, if_pos ⟨by omega, by omega, by simp only [List.length_cons, List.length_nil]; omega⟩, Int.toNat_natCast, Int.toNat_natCast, show u + 1 - u = 1 by omega, digit_at h10]
      rw [dif_pos h10]
      simp +contextual only [g0, w, hs, ↓wA, wB, wZ, repeatV, RX.evs, spl, over, ones, Ex.ends, evR, oneOf, top, ↓reduceIte, Nat.reduceEqDiff, Nat.reduceLeDiff, Nat.reduceAdd, Nat.reduceSub, Nat.reduceMul, reduceCtorEq, Int.reduceEq, Int.reduceLT, Int.reduceLE, Int.reduceNeg, Int.reduceAdd, Int.reduceSub]
    · have g0 : ((u : Int) < 10) = False := eq_false (by omega)
      rw [dif_neg h10]
      have hq : (BK.int .quo).run Tryd.prog (.int .i64 (u : Int)) (.int .i64 10) = some (.int .i64 ((u / 10 : Nat) : Int)) := by
        rw [k_quo .i64 _ _ (by decide), show (10 : Int) = ((10 : Nat) : Int) from rfl, ← Int.ofNat_tdiv, wrap_i64 (by omega) (by omega)]
      have hr : (BK.int .rem).run Tryd.prog (.int .i64 (u : Int)) (.int .i64 10) = some (.int .i64 ((u % 10 : Nat) : Int)) := by
        rw [k_rem .i64 _ _ (by decide), show (10 : Int) = ((10 : Nat) : Int) from rfl, ← Int.ofNat_tmod]
      simp +contextual only [g0, hq, ↓wA, wB, wZ, repeatV, RX.evs, spl, over, ones, Ex.ends, evR, oneOf, top, ↓reduceIte, Nat.reduceEqDiff, Nat.reduceLeDiff, Nat.reduceAdd, Nat.reduceSub, Nat.reduceMul, reduceCtorEq, Int.reduceEq, Int.reduceLT, Int.reduceLE, Int.reduceNeg, Int.reduceAdd, Int.reduceSub]
      refine callK_pure (ih (u / 10) (by omega) (by omega)) ?_
      simp +contextual only [g0, hr, ↓wA, wB, wZ, repeatV, RX.evs, spl, over, ones, Ex.ends, evR, oneOf, top, ↓reduceIte, Nat.reduceEqDiff, Nat.reduceLeDiff, Nat.reduceAdd, Nat.reduceSub, Nat.reduceMul, reduceCtorEq, Int.reduceEq, Int.reduceLT, Int.reduceLE, Int.reduceNeg, Int.reduceAdd, Int.reduceSub]
      refine callK_pure (ih (u % 10) (by omega) (by omega)) ?_
      have h2 : Lib.decDigits (u % 10) = [UInt8.ofNat (48 + u % 10)] := by rw [Lib.decDigits, dif_pos (by omega)]
      have hl : (Lib.decDigits (u / 10)).length ≤ 20 := by rw [Lib.decDigits_length]; exact Lib.nDigits_le20 _ (by omega)
      rw [h2]
      have hlt1 : ((Lib.decDigits (u / 10)).length + 1 ≤ 17179869184) = True := eq_true (by omega)
      simp +contextual only [hlt1, ↓wA, wB, wZ, repeatV, RX.evs, spl, over, ones, Ex.ends, evR, oneOf, top, ↓reduceIte, Nat.reduceEqDiff, Nat.reduceLeDiff, Nat.reduceAdd, Nat.reduceSub, Nat.reduceMul, reduceCtorEq, Int.reduceEq, Int.reduceLT, Int.reduceLE, Int.reduceNeg, Int.reduceAdd, Int.reduceSub]

theorem refquoted_ctr (s : List UInt8) (hs : s.length ≤ 90000) (h : Heap) : Ctr Tryd.prog 71 [.str s] h fun x h' => x = .str (quotedM s) ∧ Ext h h' := by
  refine c71_ctr rfl (wpK_of ?_)
  unfold c71
  simp +contextual only [↓wA, wB, wZ, repeatV, RX.evs, spl, over, ones, Ex.ends, evR, oneOf, top, ↓reduceIte, Nat.reduceEqDiff, Nat.reduceLeDiff, Nat.reduceAdd, Nat.reduceSub, Nat.reduceMul, reduceCtorEq, Int.reduceEq, Int.reduceLT, Int.reduceLE, Int.reduceNeg, Int.reduceAdd, Int.reduceSub]
  have hx0 : Ext h (h.new (.ofL [.int .u8 34] 0 false)) := (Ext.refl h).new _
  have hv0 : SlO h.next (h.new (.ofL [.int .u8 34] 0 false)) 1 (.slice (pa h.next) 0 1 1) 1 (bytesV [34]) := ⟨rfl, rfl, by rw [unPa_pa]; exact Nat.le_refl _, old_lt (by rw [next_new]; omega), Nat.le_refl _, by unfold top; omega, _, 0, false, get_new_self _, by simp, rfl⟩
  generalize h.new (.ofL [.int .u8 34] 0 false) = h1 at *
  have on : ∀ (h' : Heap) (v : V) (n m : Nat) (pre piece : List UInt8) (cs : List V), SlO h.next h' 1 v n (bytesV pre) → Ext h h' → n ≤ 400000 → m ≤ 4 → cs = bytesV piece → cs.length = m * 1 →
      ∃ v' h3, appV 1 v (.slice (pa h'.next) 0 m m) (h'.new (.ofL cs 0 false)) = .val v' h3 ∧ SlO h.next h3 1 v' (n + m) (bytesV (pre ++ piece)) ∧ Ext h h3 := by
    intro h' v n m pre piece cs hv hx hn hm hcs hl
    obtain ⟨v', h3, q1, q2, q3, q4, q5⟩ := app_bsl (m := m) (cs := cs) (by omega) hv hx.next (by unfold top; omega) hl (by rw [hcs]; exact bytesV_ones _)
    refine ⟨v', h3, q1, ?_, hx.mod_new q3 (fun b hb => hv.base hb)⟩
    rw [bytesV_append, ← hcs]
    exact q2
  refine loopK_intro (fun r h' => ∃ (i : Nat) (v : V) (n : Nat), r 3 = v ∧ r 0 = .str s ∧ r 4 = .int .i64 i ∧ i ≤ s.length ∧ n ≤ 1 + 4 * i ∧
      SlO h.next h' 1 v n (bytesV (34 :: (s.take i).flatMap qb)) ∧ Ext h h') (fun r h' => s.length - (r 4).toN) ?_ ?_
  · exact ⟨0, _, 1, by simp only [↓wA, wB, wZ, repeatV, RX.evs, spl, over, ones, Ex.ends, evR, oneOf, top, ↓reduceIte, Nat.reduceEqDiff, Nat.reduceLeDiff, Nat.reduceAdd, Nat.reduceSub, Nat.reduceMul, reduceCtorEq, Int.reduceEq, Int.reduceLT, Int.reduceLE, Int.reduceNeg, Int.reduceAdd, Int.reduceSub] <;> rfl, by simp only [↓wA, wB, wZ, repeatV, RX.evs, spl, over, ones, Ex.ends, evR, oneOf, top, ↓reduceIte, Nat.reduceEqDiff, Nat.reduceLeDiff, Nat.reduceAdd, Nat.reduceSub, Nat.reduceMul, reduceCtorEq, Int.reduceEq, Int.reduceLT, Int.reduceLE, Int.reduceNeg, Int.reduceAdd, Int.reduceSub], by simp only [↓wA, wB, wZ, repeatV, RX.evs, spl, over, ones, Ex.ends, evR, oneOf, top, ↓reduceIte, Nat.reduceEqDiff, Nat.reduceLeDiff, Nat.reduceAdd, Nat.reduceSub, Nat.reduceMul, reduceCtorEq, Int.reduceEq, Int.reduceLT, Int.reduceLE, Int.reduceNeg, Int.reduceAdd, Int.reduceSub] <;> rfl, by omega, by omega, hv0, hx0⟩
  · rintro r h' ⟨i, v, n, r3, r0, r4, hi, hn, hv, hx⟩
    unfold c71l1
    by_cases hlt : i < s.length
    · have g0 : ((i : Int) < (s.length : Int)) = True := eq_true (by omega)
      have g1 : (0 ≤ (i : Int)) = True := eq_true (by omega)
      have hc256 := (s[i]).toNat_lt
      have w : IntKind.i64.wrap ((i : Int) + 1) = ((i + 1 : Nat) : Int) := by rw [wrap_i64 (by omega) (by omega)]; rfl
      have e34 : (((s[i]).toNat : Int) = 34) = (s[i] = 34) := u8_eq _ 34 (by omega)
      have e92 : (((s[i]).toNat : Int) = 92) = (s[i] = 92) := u8_eq _ 92 (by omega)
      have hsi := List.getElem?_eq_getElem hlt
      have htf : ∀ piece, qb s[i] = piece → (34 :: (s.take i).flatMap qb) ++ piece = 34 :: (s.take (i + 1)).flatMap qb := by
        intro piece hp
        rw [take_flat hlt, hp]
        rfl
      by_cases h1 : s[i] = 34 ∨ s[i] = 92
      · have hq : qb s[i] = [92, s[i]] := by unfold qb; rw [if_pos h1]
        obtain ⟨v1, h2, q1, q2, q3⟩ := on h' v n 1 _ [92] [.int .u8 92] hv hx (by omega) (by omega) rfl rfl
        obtain ⟨v2, h3, q4, q5, q6⟩ := on h2 v1 (n + 1) 1 _ [s[i]] [.int .u8 ((s[i]).toNat : Int)] q2 q3 (by omega) (by omega) rfl rfl
        rw [List.append_assoc] at q5
        rw [htf ([92] ++ [s[i]]) hq] at q5
        have c1 : (s[i]).toNat = 34 ∨ (s[i]).toNat = 92 := h1.imp (fun q => by rw [q]; rfl) (fun q => by rw [q]; rfl)
        have t1 : (((s[i]).toNat : Int) < 32) = False := eq_false (by omega)
        have t2 : ((126 : Int) < ((s[i]).toNat : Int)) = False := eq_false (by omega)
        by_cases h34 : s[i] = 34
        · have t3 := eq_true h34
          simp +contextual only [r3, r0, r4, g0, g1, hsi, Int.toNat_natCast, e34, e92, t1, t2, t3, q1, q4, w, ↓wA, wB, wZ, repeatV, RX.evs, spl, over, ones, Ex.ends, evR, oneOf, top, ↓reduceIte, Nat.reduceEqDiff, Nat.reduceLeDiff, Nat.reduceAdd, Nat.reduceSub, Nat.reduceMul, reduceCtorEq, Int.reduceEq, Int.reduceLT, Int.reduceLE, Int.reduceNeg, Int.reduceAdd, Int.reduceSub]
          exact ⟨⟨i + 1, v2, n + 1 + 1, rfl, rfl, hlt, by omega, q5, q6⟩, by omega⟩
        · have t3 := eq_false h34
          have t4 := eq_true (h1.resolve_left h34)
          simp +contextual only [r3, r0, r4, g0, g1, hsi, Int.toNat_natCast, e34, e92, t1, t2, t3, t4, q1, q4, w, ↓wA, wB, wZ, repeatV, RX.evs, spl, over, ones, Ex.ends, evR, oneOf, top, ↓reduceIte, Nat.reduceEqDiff, Nat.reduceLeDiff, Nat.reduceAdd, Nat.reduceSub, Nat.reduceMul, reduceCtorEq, Int.reduceEq, Int.reduceLT, Int.reduceLE, Int.reduceNeg, Int.reduceAdd, Int.reduceSub]
          exact ⟨⟨i + 1, v2, n + 1 + 1, rfl, rfl, hlt, by omega, q5, q6⟩, by omega⟩
      · have n34 := eq_false (fun q => h1 (.inl q) : ¬ s[i] = 34)
        have n92 := eq_false (fun q => h1 (.inr q) : ¬ s[i] = 92)
        by_cases h2 : (s[i]).toNat < 32 ∨ 127 ≤ (s[i]).toNat
        · have hq : qb s[i] = [92, (48 + (s[i]).toNat / 100).toUInt8, (48 + (s[i]).toNat / 10 % 10).toUInt8, (48 + (s[i]).toNat % 10).toUInt8] := by unfold qb; rw [if_neg h1, if_pos h2]
          obtain ⟨v', h3, q1, q2, q3⟩ := on h' v n 4 _ _ [.int .u8 92, .int .u8 ((48 + (s[i]).toNat / 100 : Nat) : Int), .int .u8 ((48 + (s[i]).toNat / 10 % 10 : Nat) : Int), .int .u8 ((48 + (s[i]).toNat % 10 : Nat) : Int)] hv hx (by omega) (by omega) (bytes_three _).symm rfl
          rw [htf _ hq] at q2
          have x1 : (BK.int .quo).run Tryd.prog (.int .u8 ((s[i]).toNat : Int)) (.int .u8 100) = some (.int .u8 (((s[i]).toNat / 100 : Nat) : Int)) := quo_u8 (s[i]).toNat 100 hc256 (by omega)
          have x2 : (BK.int .quo).run Tryd.prog (.int .u8 ((s[i]).toNat : Int)) (.int .u8 10) = some (.int .u8 (((s[i]).toNat / 10 : Nat) : Int)) := quo_u8 (s[i]).toNat 10 hc256 (by omega)
          have x3 : (BK.int .rem).run Tryd.prog (.int .u8 (((s[i]).toNat / 10 : Nat) : Int)) (.int .u8 10) = some (.int .u8 (((s[i]).toNat / 10 % 10 : Nat) : Int)) := rem_u8 ((s[i]).toNat / 10) 10 (by omega)
          have x4 : (BK.int .rem).run Tryd.prog (.int .u8 ((s[i]).toNat : Int)) (.int .u8 10) = some (.int .u8 (((s[i]).toNat % 10 : Nat) : Int)) := rem_u8 (s[i]).toNat 10 (by omega)
          have w1 := wr48 ((s[i]).toNat / 100) (by omega)
          have w2 := wr48 ((s[i]).toNat / 10 % 10) (by omega)
          have w3 := wr48 ((s[i]).toNat % 10) (by omega)
          by_cases h32 : (s[i]).toNat < 32
          · have t1 : (((s[i]).toNat : Int) < 32) = True := eq_true (by omega)
            simp +contextual only [r3, r0, r4, g0, g1, hsi, Int.toNat_natCast, e34, e92, n34, n92, t1, x1, x2, x3, x4, w1, w2, w3, q1, w, ↓wA, wB, wZ, repeatV, RX.evs, spl, over, ones, Ex.ends, evR, oneOf, top, ↓reduceIte, Nat.reduceEqDiff, Nat.reduceLeDiff, Nat.reduceAdd, Nat.reduceSub, Nat.reduceMul, reduceCtorEq, Int.reduceEq, Int.reduceLT, Int.reduceLE, Int.reduceNeg, Int.reduceAdd, Int.reduceSub]
            exact ⟨⟨i + 1, v', n + 4, rfl, rfl, hlt, by omega, q2, q3⟩, by omega⟩
          · have t1 : (((s[i]).toNat : Int) < 32) = False := eq_false (by omega)
            have t2 : ((126 : Int) < ((s[i]).toNat : Int)) = True := eq_true (by omega)
            simp +contextual only [r3, r0, r4, g0, g1, hsi, Int.toNat_natCast, e34, e92, n34, n92, t1, t2, x1, x2, x3, x4, w1, w2, w3, q1, w, ↓wA, wB, wZ, repeatV, RX.evs, spl, over, ones, Ex.ends, evR, oneOf, top, ↓reduceIte, Nat.reduceEqDiff, Nat.reduceLeDiff, Nat.reduceAdd, Nat.reduceSub, Nat.reduceMul, reduceCtorEq, Int.reduceEq, Int.reduceLT, Int.reduceLE, Int.reduceNeg, Int.reduceAdd, Int.reduceSub]
            exact ⟨⟨i + 1, v', n + 4, rfl, rfl, hlt, by omega, q2, q3⟩, by omega⟩
        · have hq : qb s[i] = [s[i]] := by unfold qb; rw [if_neg h1, if_neg h2]
          obtain ⟨v', h3, q1, q2, q3⟩ := on h' v n 1 _ [s[i]] [.int .u8 ((s[i]).toNat : Int)] hv hx (by omega) (by omega) rfl rfl
          rw [htf _ hq] at q2
          have t1 : (((s[i]).toNat : Int) < 32) = False := eq_false (by omega)
          have t2 : ((126 : Int) < ((s[i]).toNat : Int)) = False := eq_false (by omega)
          simp +contextual only [r3, r0, r4, g0, g1, hsi, Int.toNat_natCast, e34, e92, n34, n92, t1, t2, q1, w, ↓wA, wB, wZ, repeatV, RX.evs, spl, over, ones, Ex.ends, evR, oneOf, top, ↓reduceIte, Nat.reduceEqDiff, Nat.reduceLeDiff, Nat.reduceAdd, Nat.reduceSub, Nat.reduceMul, reduceCtorEq, Int.reduceEq, Int.reduceLT, Int.reduceLE, Int.reduceNeg, Int.reduceAdd, Int.reduceSub]
          exact ⟨⟨i + 1, v', n + 1, rfl, rfl, hlt, by omega, q2, q3⟩, by omega⟩
    · have hi' : i = s.length := by omega
      have g0 : ((i : Int) < (s.length : Int)) = False := eq_false (by omega)
      rw [hi', List.take_length] at hv
      obtain ⟨v', h3, q1, q2, q3⟩ := on h' v n 1 _ [34] [.int .u8 34] hv hx (by omega) (by omega) rfl rfl
      have hb : (34 :: s.flatMap qb) ++ [34] = quotedM s := rfl
      rw [hb] at q2
      have hlen : n + 1 = (quotedM s).length := by
        have := q2.1
        rw [bytesV_len, Nat.mul_one] at this
        omega
      rw [hlen] at q2
      simp +contextual only [r3, r0, r4, g0, q1, convStr_own q2, ↓wA, wB, wZ, repeatV, RX.evs, spl, over, ones, Ex.ends, evR, oneOf, top, ↓reduceIte, Nat.reduceEqDiff, Nat.reduceLeDiff, Nat.reduceAdd, Nat.reduceSub, Nat.reduceMul, reduceCtorEq, Int.reduceEq, Int.reduceLT, Int.reduceLE, Int.reduceNeg, Int.reduceAdd, Int.reduceSub]
      exact q3

theorem refwritten_ctr (k n p : Int) (s : List UInt8) (hs : s.length ≤ 90000) (hn : k = 1 → -1073741824 ≤ n ∧ n ≤ 1073741823) (h : Heap) : Ctr Tryd.prog 41 [.agg [.int .i64 k, .int .i64 n, .int .i64 p, .str s]] h fun x h' => x = .str (writtenM k n s) ∧ Ext h h' := by
  refine c41_ctr rfl (wpK_of ?_)
  unfold c41
  have hx : Ext h (h.new (.ofL [.int .i64 k, .int .i64 n, .int .i64 p, .str s] 0 false)) := (Ext.refl h).new _
  by_cases h1 : k = 1
  · subst h1
    obtain ⟨l1, l2⟩ := hn rfl
    by_cases hneg : n < 0
    · have g0 := eq_true hneg
      obtain ⟨u, hu⟩ : ∃ u : Nat, n + 2147483648 = u := ⟨(n + 2147483648).toNat, by omega⟩
      have w : IntKind.i64.wrap (n + 2147483648) = (u : Int) := by rw [wrap_i64 (by omega) (by omega), hu]
      have hw : writtenM 1 n s = Lib.decDigits u := by
        show Lib.itoa (if n < 0 then n + 2147483648 else n) = _
        rw [if_pos hneg, hu, Lib.itoa_nonneg]
      simp +contextual only [g0, w, ↓wA, wB, wZ, repeatV, RX.evs, spl, over, ones, Ex.ends, evR, oneOf, top, ↓reduceIte, Nat.reduceEqDiff, Nat.reduceLeDiff, Nat.reduceAdd, Nat.reduceSub, Nat.reduceMul, reduceCtorEq, Int.reduceEq, Int.reduceLT, Int.reduceLE, Int.reduceNeg, Int.reduceAdd, Int.reduceSub]
      refine callK_pure (dec_pure u (by omega) _) ?_
      rw [hw]
      simp +contextual only [↓wA, wB, wZ, repeatV, RX.evs, spl, over, ones, Ex.ends, evR, oneOf, top, ↓reduceIte, Nat.reduceEqDiff, Nat.reduceLeDiff, Nat.reduceAdd, Nat.reduceSub, Nat.reduceMul, reduceCtorEq, Int.reduceEq, Int.reduceLT, Int.reduceLE, Int.reduceNeg, Int.reduceAdd, Int.reduceSub]
      exact hx
    · have g0 := eq_false hneg
      obtain ⟨u, rfl⟩ : ∃ u : Nat, n = u := ⟨n.toNat, by omega⟩
      have hw : writtenM 1 u s = Lib.decDigits u := by
        show Lib.itoa (if (u : Int) < 0 then _ else (u : Int)) = _
        rw [if_neg hneg, Lib.itoa_nonneg]
      simp +contextual only [g0, ↓wA, wB, wZ, repeatV, RX.evs, spl, over, ones, Ex.ends, evR, oneOf, top, ↓reduceIte, Nat.reduceEqDiff, Nat.reduceLeDiff, Nat.reduceAdd, Nat.reduceSub, Nat.reduceMul, reduceCtorEq, Int.reduceEq, Int.reduceLT, Int.reduceLE, Int.reduceNeg, Int.reduceAdd, Int.reduceSub]
      refine callK_pure (dec_pure u (by omega) _) ?_
      rw [hw]
      simp +contextual only [↓wA, wB, wZ, repeatV, RX.evs, spl, over, ones, Ex.ends, evR, oneOf, top, ↓reduceIte, Nat.reduceEqDiff, Nat.reduceLeDiff, Nat.reduceAdd, Nat.reduceSub, Nat.reduceMul, reduceCtorEq, Int.reduceEq, Int.reduceLT, Int.reduceLE, Int.reduceNeg, Int.reduceAdd, Int.reduceSub]
      exact hx
  have k1 := eq_false h1
  by_cases h2 : k = 2
  · subst h2
    rw [show writtenM 2 n s = quotedM s from rfl]
    simp +contextual only [↓wA, wB, wZ, repeatV, RX.evs, spl, over, ones, Ex.ends, evR, oneOf, top, ↓reduceIte, Nat.reduceEqDiff, Nat.reduceLeDiff, Nat.reduceAdd, Nat.reduceSub, Nat.reduceMul, reduceCtorEq, Int.reduceEq, Int.reduceLT, Int.reduceLE, Int.reduceNeg, Int.reduceAdd, Int.reduceSub]
    refine callK_intro (refquoted_ctr s hs _) ?_
    rintro x h2 ⟨rfl, hx2⟩
    simp +contextual only [↓wA, wB, wZ, repeatV, RX.evs, spl, over, ones, Ex.ends, evR, oneOf, top, ↓reduceIte, Nat.reduceEqDiff, Nat.reduceLeDiff, Nat.reduceAdd, Nat.reduceSub, Nat.reduceMul, reduceCtorEq, Int.reduceEq, Int.reduceLT, Int.reduceLE, Int.reduceNeg, Int.reduceAdd, Int.reduceSub]
    exact hx.trans hx2
  have k2 := eq_false h2
  by_cases h5 : k = 5
  · subst h5
    have hlt1 : (1 + s.length ≤ 17179869184) = True := eq_true (by omega)
    rw [show writtenM 5 n s = 39 :: s from rfl]
    simp +contextual only [hlt1, List.cons_append, List.nil_append, ↓wA, wB, wZ, repeatV, RX.evs, spl, over, ones, Ex.ends, evR, oneOf, top, ↓reduceIte, Nat.reduceEqDiff, Nat.reduceLeDiff, Nat.reduceAdd, Nat.reduceSub, Nat.reduceMul, reduceCtorEq, Int.reduceEq, Int.reduceLT, Int.reduceLE, Int.reduceNeg, Int.reduceAdd, Int.reduceSub]
    exact hx
  · have k5 := eq_false h5
    rw [show writtenM k n s = s by unfold writtenM; rw [if_neg h1, if_neg h2, if_neg h5]]
    simp +contextual only [k1, k2, k5, ↓wA, wB, wZ, repeatV, RX.evs, spl, over, ones, Ex.ends, evR, oneOf, top, ↓reduceIte, Nat.reduceEqDiff, Nat.reduceLeDiff, Nat.reduceAdd, Nat.reduceSub, Nat.reduceMul, reduceCtorEq, Int.reduceEq, Int.reduceLT, Int.reduceLE, Int.reduceNeg, Int.reduceAdd, Int.reduceSub]
    exact hx

theorem join_snoc (x : List UInt8) : ∀ L : List (List UInt8), Lib.join (L ++ [x]) [32] = if L = [] then x else Lib.join L [32] ++ ([32] ++ x)
  | [] => by rw [if_pos rfl]; exact Lib.join_one x [32]
  | y :: L => by
    rw [if_neg (by simp), List.cons_append, Lib.join_cons, Lib.join_cons, List.append_assoc]
    congr 1
    unfold Lib.joinTail
    rw [List.map_append, List.flatten_append]
    simp

theorem refwrite_ctr (v0 : V) (ws : List Wi) (h : Heap) (H : SlV h 4 v0 ws.length (wisV ws)) (hl : ws.length ≤ 10000) (ht : ∀ w ∈ ws, w.text.length ≤ 5000) :
    Ctr Tryd.prog 19 [v0] h fun x h' => x = .tuple [.str (writeM ws).1, .int .i64 (writeM ws).2] ∧ Ext h h' := by
  refine c19_ctr rfl (wpK_of ?_)
  unfold c19
  simp +contextual only [↓wA, wB, wZ, repeatV, RX.evs, spl, over, ones, Ex.ends, evR, oneOf, top, ↓reduceIte, Nat.reduceEqDiff, Nat.reduceLeDiff, Nat.reduceAdd, Nat.reduceSub, Nat.reduceMul, reduceCtorEq, Int.reduceEq, Int.reduceLT, Int.reduceLE, Int.reduceNeg, Int.reduceAdd, Int.reduceSub]
  refine loopK_intro (fun r h' => ∃ (i : Nat) (v : V) (n : Nat), r 4 = v ∧ r 0 = v0 ∧ r 5 = .int .i64 i ∧ i ≤ ws.length ∧ n ≤ i * 20003 ∧ ((ws.take i).all Wi.may = true) ∧
      SlO h.next h' 1 v n (bytesV (Lib.join ((ws.take i).map Wi.out) [32])) ∧ Ext h h') (fun r h' => ws.length - (r 5).toN) ?_ ?_
  · exact ⟨0, .nilslice, 0, by simp only [↓wA, wB, wZ, repeatV, RX.evs, spl, over, ones, Ex.ends, evR, oneOf, top, ↓reduceIte, Nat.reduceEqDiff, Nat.reduceLeDiff, Nat.reduceAdd, Nat.reduceSub, Nat.reduceMul, reduceCtorEq, Int.reduceEq, Int.reduceLT, Int.reduceLE, Int.reduceNeg, Int.reduceAdd, Int.reduceSub], by simp only [↓wA, wB, wZ, repeatV, RX.evs, spl, over, ones, Ex.ends, evR, oneOf, top, ↓reduceIte, Nat.reduceEqDiff, Nat.reduceLeDiff, Nat.reduceAdd, Nat.reduceSub, Nat.reduceMul, reduceCtorEq, Int.reduceEq, Int.reduceLT, Int.reduceLE, Int.reduceNeg, Int.reduceAdd, Int.reduceSub], by simp only [↓wA, wB, wZ, repeatV, RX.evs, spl, over, ones, Ex.ends, evR, oneOf, top, ↓reduceIte, Nat.reduceEqDiff, Nat.reduceLeDiff, Nat.reduceAdd, Nat.reduceSub, Nat.reduceMul, reduceCtorEq, Int.reduceEq, Int.reduceLT, Int.reduceLE, Int.reduceNeg, Int.reduceAdd, Int.reduceSub] <;> rfl, by omega, by omega, rfl, ⟨by simp [bytesV, Lib.join_nil], by simp⟩, Ext.refl _⟩
  · rintro r h' ⟨i, v, n, r4, r0, r5, hi, hn, hall, hv, hx⟩
    unfold c19l1
    by_cases hlt : i < ws.length
    · have g0 : ((i : Int) < (ws.length : Int)) = True := eq_true (by omega)
      obtain ⟨b1, o1, ia1, at1⟩ := (H.ext hx).ia (k := .i64) hlt
      have ld1 := at1.ldn (i := i * 4) (n := 4) (by rw [wisV_len]; omega)
      rw [wisV_at ws i hlt] at ld1
      have hlen := (H.ext hx).len
      have w : IntKind.i64.wrap ((i : Int) + 1) = ((i + 1 : Nat) : Int) := by rw [wrap_i64 (by omega) (by omega)]; rfl
      have hwt := ht ws[i] (List.getElem_mem hlt)
      have hmay : ws[i].may = mayM ws[i].kind ws[i].num ws[i].text := rfl
      have hout : ws[i].out = writtenM ws[i].kind ws[i].num ws[i].text := rfl
      have holen : ws[i].may = true → ws[i].out.length ≤ 20002 := fun q => out_len q hwt
      have hno : ws[i].may = false → writeM ws = ([], 2) := by
        intro q
        unfold writeM
        rw [if_neg]
        rw [List.all_eq_true]
        intro q2
        rw [q2 _ (List.getElem_mem hlt)] at q
        cases q
      have htake : ws.take (i + 1) = ws.take i ++ [ws[i]] := (List.take_append_getElem hlt).symm
      have hencl := wisV_at ws i hlt
      unfold Wi.enc at ld1 hencl
      generalize ws[i] = wd at *
      obtain ⟨k, n', p, s⟩ := wd
      simp only at *
      simp +contextual only [r4, r0, r5, g0, hlen, H.len, ia1, ld1, w, ↓wA, wB, wZ, repeatV, RX.evs, spl, over, ones, Ex.ends, evR, oneOf, top, ↓reduceIte, Nat.reduceEqDiff, Nat.reduceLeDiff, Nat.reduceAdd, Nat.reduceSub, Nat.reduceMul, reduceCtorEq, Int.reduceEq, Int.reduceLT, Int.reduceLE, Int.reduceNeg, Int.reduceAdd, Int.reduceSub]
      refine callK_intro (refmay_ctr k n' p s (by omega) h') ?_
      rintro x h2 ⟨rfl, hx2⟩
      have hxx : Ext h h2 := hx.trans hx2
      have hv2 := hv.ext hx2
      cases hm : mayM k n' s with
      | false =>
        simp +contextual only [↓wA, wB, wZ, repeatV, RX.evs, spl, over, ones, Ex.ends, evR, oneOf, top, ↓reduceIte, Nat.reduceEqDiff, Nat.reduceLeDiff, Nat.reduceAdd, Nat.reduceSub, Nat.reduceMul, reduceCtorEq, Int.reduceEq, Int.reduceLT, Int.reduceLE, Int.reduceNeg, Int.reduceAdd, Int.reduceSub]
        rw [hno (hmay.trans hm)]
        exact ⟨rfl, hxx⟩
      | true =>
        have hol := holen (hmay.trans hm)
        rw [hout] at hol
        have hall2 : (ws.take (i + 1)).all Wi.may = true := by
          rw [htake, List.all_append, hall]
          simp [hmay, hm]
        have hrange : k = 1 → -1073741824 ≤ n' ∧ n' ≤ 1073741823 := by
          rintro rfl
          rw [mayM1] at hm
          simp only [Bool.and_eq_true, decide_eq_true_eq] at hm
          exact ⟨hm.1.2, hm.2⟩
        -- what follows: the word's text laid behind
        have tail : ∀ (h3 : Heap) (v3 : V) (n3 : Nat) (pre : List UInt8), Ext h h3 → SlO h.next h3 1 v3 n3 (bytesV pre) → n3 ≤ n + 1 → pre ++ writtenM k n' s = Lib.join ((ws.take (i + 1)).map Wi.out) [32] →
            ∀ h4, Ext h3 h4 → ∃ v5 h5, appV 1 v3 (.str (writtenM k n' s)) h4 = .val v5 h5 ∧ SlO h.next h5 1 v5 (n3 + (writtenM k n' s).length) (bytesV (Lib.join ((ws.take (i + 1)).map Wi.out) [32])) ∧ Ext h h5 := by
          intro h3 v3 n3 pre hx3 hv3 hn3 hpre h4 hx4
          have hx5 := hx3.trans hx4
          obtain ⟨v5, h5, q1, q2, q3, q4⟩ := app_str (writtenM k n' s) (hv3.ext hx4) hx5.next (by unfold top; omega)
          refine ⟨v5, h5, q1, ?_, hx5.mod_new q3 (fun b hb => hv3.base hb)⟩
          rw [← hpre, bytesV_append]
          exact q2
        have hia : ∀ h3, Ext h h3 → ldnB 4 (h3.get b1) (o1 + i * 4) = some (.agg [.int .i64 k, .int .i64 n', .int .i64 p, .str s]) := by
          intro h3 hx3
          obtain ⟨b2, o2, ia2, at2⟩ := (H.ext hx3).ia (k := .i64) hlt
          rw [ia1] at ia2
          have e1 := V.ptr.inj (Option.some.inj ia2)
          have ld2 := at2.ldn (i := i * 4) (n := 4) (by rw [wisV_len]; omega)
          rw [hencl] at ld2
          rw [e1.1, e1.2]
          exact ld2
        by_cases hi0 : 0 < i
        · have t1 : ((0 : Int) < (i : Int)) = True := eq_true (by omega)
          obtain ⟨v3, h3, q1, q2, q3, q4, q5⟩ := app_bsl (m := 1) (cs := [.int .u8 32]) (by omega) hv2 hxx.next (by unfold top; omega) rfl rfl
          have hx3 : Ext h h3 := hxx.mod_new q3 (fun b hb => hv2.base hb)
          have hpre : (Lib.join ((ws.take i).map Wi.out) [32] ++ [32]) ++ writtenM k n' s = Lib.join ((ws.take (i + 1)).map Wi.out) [32] := by
            rw [htake, List.map_append, List.map_cons, List.map_nil, join_snoc, hout, if_neg (by
              intro e
              have := congrArg List.length e
              rw [List.length_map, List.length_take] at this
              simp only [List.length_nil] at this
              omega), List.append_assoc]
          have q2' : SlO h.next h3 1 v3 (n + 1) (bytesV (Lib.join ((ws.take i).map Wi.out) [32] ++ [32])) := by rw [bytesV_append]; exact q2
          simp +contextual only [r4, r0, r5, t1, q1, ia1, hia h3 hx3, ↓wA, wB, wZ, repeatV, RX.evs, spl, over, ones, Ex.ends, evR, oneOf, top, ↓reduceIte, Nat.reduceEqDiff, Nat.reduceLeDiff, Nat.reduceAdd, Nat.reduceSub, Nat.reduceMul, reduceCtorEq, Int.reduceEq, Int.reduceLT, Int.reduceLE, Int.reduceNeg, Int.reduceAdd, Int.reduceSub]
          refine callK_intro (refwritten_ctr k n' p s (by omega) hrange h3) ?_
          rintro x h4 ⟨rfl, hx4⟩
          obtain ⟨v5, h5, q6, q7, q8⟩ := tail h3 v3 (n + 1) _ hx3 q2' (by omega) hpre h4 hx4
          simp +contextual only [r4, r0, r5, q6, w, ↓wA, wB, wZ, repeatV, RX.evs, spl, over, ones, Ex.ends, evR, oneOf, top, ↓reduceIte, Nat.reduceEqDiff, Nat.reduceLeDiff, Nat.reduceAdd, Nat.reduceSub, Nat.reduceMul, reduceCtorEq, Int.reduceEq, Int.reduceLT, Int.reduceLE, Int.reduceNeg, Int.reduceAdd, Int.reduceSub]
          exact ⟨⟨i + 1, v5, _, rfl, rfl, hlt, by omega, hall2, q7, q8⟩, by omega⟩
        · have t1 : ((0 : Int) < (i : Int)) = False := eq_false (by omega)
          have hpre : Lib.join ((ws.take i).map Wi.out) [32] ++ writtenM k n' s = Lib.join ((ws.take (i + 1)).map Wi.out) [32] := by
            rw [htake, List.map_append, List.map_cons, List.map_nil, join_snoc, hout]
            have : i = 0 := by omega
            subst this
            rfl
          simp +contextual only [r4, r0, r5, t1, ia1, hia h2 hxx, ↓wA, wB, wZ, repeatV, RX.evs, spl, over, ones, Ex.ends, evR, oneOf, top, ↓reduceIte, Nat.reduceEqDiff, Nat.reduceLeDiff, Nat.reduceAdd, Nat.reduceSub, Nat.reduceMul, reduceCtorEq, Int.reduceEq, Int.reduceLT, Int.reduceLE, Int.reduceNeg, Int.reduceAdd, Int.reduceSub]
          refine callK_intro (refwritten_ctr k n' p s (by omega) hrange h2) ?_
          rintro x h4 ⟨rfl, hx4⟩
          obtain ⟨v5, h5, q6, q7, q8⟩ := tail h2 v n _ hxx hv2 (by omega) hpre h4 hx4
          simp +contextual only [r4, r0, r5, q6, w, ↓wA, wB, wZ, repeatV, RX.evs, spl, over, ones, Ex.ends, evR, oneOf, top, ↓reduceIte, Nat.reduceEqDiff, Nat.reduceLeDiff, Nat.reduceAdd, Nat.reduceSub, Nat.reduceMul, reduceCtorEq, Int.reduceEq, Int.reduceLT, Int.reduceLE, Int.reduceNeg, Int.reduceAdd, Int.reduceSub]
          exact ⟨⟨i + 1, v5, _, rfl, rfl, hlt, by omega, hall2, q7, q8⟩, by omega⟩
    · have hi' : i = ws.length := by omega
      have g0 : ((i : Int) < (ws.length : Int)) = False := eq_false (by omega)
      rw [hi', List.take_length] at hv hall
      have hw : writeM ws = (Lib.join (ws.map Wi.out) [32], 0) := by unfold writeM; rw [if_pos hall]
      have hlen : n = (Lib.join (ws.map Wi.out) [32]).length := by
        have := hv.1
        rw [bytesV_len, Nat.mul_one] at this
        omega
      rw [hlen] at hv
      simp +contextual only [r4, r0, r5, g0, (H.ext hx).len, convStr_own hv, ↓wA, wB, wZ, repeatV, RX.evs, spl, over, ones, Ex.ends, evR, oneOf, top, ↓reduceIte, Nat.reduceEqDiff, Nat.reduceLeDiff, Nat.reduceAdd, Nat.reduceSub, Nat.reduceMul, reduceCtorEq, Int.reduceEq, Int.reduceLT, Int.reduceLE, Int.reduceNeg, Int.reduceAdd, Int.reduceSub]
      rw [hw]
      exact ⟨rfl, hx⟩
end Go.Proofs.YthcgccnbhdociaaDoor

/- The chapter's functions, walked by the abstract machine: plain lemmas, no condition. -/
import Derived.Test.YthcgccnbhdociaaDoorM6
import Derived.Test.YthcgccnbhdociaaDoorM3
import Derived.Test.YthcgccnbhdociaaDoorM7
import Derived.Test.YthcgccnbhdociaaDoorM5
import Derived.Lay
import Derived.LaidLaws
import Derived.PinnedBridge
import Derived.Lib.LaidU8T
import Derived.Shelf.Vars
import Derived.MakeChecks

namespace Go.Proofs.YthcgccnbhdociaaDoor
open Go Am Go.RowKit
set_option linter.unusedSectionVars false
set_option linter.unusedSimpArgs false
set_option linter.unusedVariables false

/-! Words that are handed in. -/
end Go.Proofs.YthcgccnbhdociaaDoor

namespace Go.Proofs.YthcgccnbhdociaaDoor
open Go Am
set_option linter.unusedSectionVars false
set_option linter.unusedSimpArgs false
set_option linter.unusedVariables false

/-! The chapter's examples. -/
def kText1 : List UInt8 := [108, 101, 116, 32, 120, 32, 61, 32, 34, 97, 92, 110, 34, 32, 40, 42, 32, 40, 42, 32, 42, 41, 32, 42, 41, 32, 105, 110, 32, 120]
def kWords1 : List Wd := [⟨6, 0, 0, [108, 101, 116]⟩, ⟨3, 0, 4, [120]⟩, ⟨7, 0, 6, [61]⟩, ⟨2, 0, 8, [97, 10]⟩, ⟨6, 0, 26, [105, 110]⟩, ⟨3, 0, 29, [120]⟩]
theorem known1 : lexM kText1 = .ok kWords1 := by kernel_rfl
theorem known1' : lexEq kText1 kWords1 = true := by unfold lexEq; rw [known1]; rfl
theorem known2 : lexM [50, 49, 52, 55, 52, 56, 51, 54, 52, 55] = .ok [⟨1, -1, 0, []⟩] := by kernel_rfl
theorem known2' : lexEq [50, 49, 52, 55, 52, 56, 51, 54, 52, 55] [⟨1, -1, 0, []⟩] = true := by unfold lexEq; rw [known2]; rfl
theorem known3 : lexM [50, 49, 52, 55, 52, 56, 51, 54, 52, 56] = .error (254, 0) := by kernel_rfl
theorem known4 : lexM [34, 97] = .error (252, 0) := by kernel_rfl
theorem known5 : lexM [40, 42, 32, 97] = .error (253, 0) := by kernel_rfl
theorem known6 : lexM [34, 92, 57, 34] = .error (252, 0) := by kernel_rfl
theorem known7 : rightM [97, 195, 169, 255] = 3 := by kernel_rfl
theorem known8 : rightM [237, 160, 128] = 0 := by kernel_rfl
theorem itoa_big : Lib.itoa 2147483647 = [50, 49, 52, 55, 52, 56, 51, 54, 52, 55] := by
  have : Lib.itoa ((2147483647 : Nat) : Int) = Lib.decDigits 2147483647 := Lib.itoa_nonneg _
  rw [show (2147483647 : Int) = ((2147483647 : Nat) : Int) from rfl, this]
  simp [Lib.decDigits]
theorem known9 : writeM [⟨2, 0, 0, [195, 169]⟩, ⟨1, -1, 0, []⟩] = ([34, 92, 49, 57, 53, 92, 49, 54, 57, 34, 32, 50, 49, 52, 55, 52, 56, 51, 54, 52, 55], 0) := by
  have h1 : Wi.out ⟨1, -1, 0, []⟩ = [50, 49, 52, 55, 52, 56, 51, 54, 52, 55] := by
    unfold Wi.out writtenM
    rw [if_pos rfl, if_pos (by decide), show (-1 + 2147483648 : Int) = 2147483647 from by decide]
    exact itoa_big
  have h2 : Wi.out ⟨2, 0, 0, [195, 169]⟩ = [34, 92, 49, 57, 53, 92, 49, 54, 57, 34] := by decide
  unfold writeM
  have m1 : Wi.may ⟨1, -1, 0, []⟩ = true := by show mayM 1 (-1) [] = true; rw [mayM1]; simp
  have m2 : Wi.may ⟨2, 0, 0, [195, 169]⟩ = true := by show mayM 2 0 [195, 169] = true; rw [mayM2]; simp
  rw [if_pos (by simp only [List.all_cons, List.all_nil, m1, m2, Bool.and_true]), List.map_cons, List.map_cons, List.map_nil, h1, h2]
  rfl
theorem conv_new (l : List UInt8) (h : Heap) (hl : l.length ≤ top) : convStr.run (.slice (pa h.next) 0 l.length l.length) (h.new (.ofL (bytesV l) 0 false)) = .val (.str l) (h.new (.ofL (bytesV l) 0 false)) :=
  convStr_own (B := 0) ⟨by rw [bytesV_len, Nat.mul_one], rfl, Nat.zero_le _, old_lt (by rw [next_new]; omega), Nat.le_refl _, hl, _, 0, false, get_new_self _, by rw [bytesV_len]; omega, by simp⟩

theorem known_ctr (h : Heap) : Ctr Tryd.prog 7 [] h fun x h' => x = .bool true ∧ Ext h h' := by
  refine c7_ctr rfl (wpK_of ?_)
  unfold c7
  simp +contextual only [↓wA, wB, wZ, repeatV, RX.evs, spl, over, ones, Ex.ends, evR, oneOf, top, ↓reduceIte, Nat.reduceEqDiff, Nat.reduceLeDiff, Nat.reduceAdd, Nat.reduceSub, Nat.reduceMul, reduceCtorEq, Int.reduceEq, Int.reduceLT, Int.reduceLE, Int.reduceNeg, Int.reduceAdd, Int.reduceSub]
  have n0 : (((0 : Nat) : Int) = 0) = True := eq_true rfl
  have hx0 : Ext h (h.new (.ofL (wdsV kWords1) 0 false)) := (Ext.refl h).new _
  refine callK_intro (has_ctr kText1 _ kWords1 (h.new (.ofL (wdsV kWords1) 0 false)) ⟨rfl, rfl, old_lt (by rw [next_new]; omega), _, .inr ⟨0, false, by rw [get_new_self]⟩, by decide, rfl⟩) ?_
  rintro x h1 ⟨rfl, hx1⟩
  rw [known1']
  have hy1 := hx0.trans hx1
  simp +contextual only [↓wA, wB, wZ, repeatV, RX.evs, spl, over, ones, Ex.ends, evR, oneOf, top, ↓reduceIte, Nat.reduceEqDiff, Nat.reduceLeDiff, Nat.reduceAdd, Nat.reduceSub, Nat.reduceMul, reduceCtorEq, Int.reduceEq, Int.reduceLT, Int.reduceLE, Int.reduceNeg, Int.reduceAdd, Int.reduceSub]
  have hx2 : Ext h1 (h1.new (.ofL (wdsV [⟨1, -1, 0, []⟩]) 0 false)) := (Ext.refl h1).new _
  refine callK_intro (has_ctr [50, 49, 52, 55, 52, 56, 51, 54, 52, 55] _ [⟨1, -1, 0, []⟩] (h1.new (.ofL (wdsV [⟨1, -1, 0, []⟩]) 0 false)) ⟨rfl, rfl, old_lt (by rw [next_new]; omega), _, .inr ⟨0, false, by rw [get_new_self]⟩, by decide, rfl⟩) ?_
  rintro x h2 ⟨rfl, hx3⟩
  rw [known2']
  have hy2 := (hy1.trans hx2).trans hx3
  simp +contextual only [↓wA, wB, wZ, repeatV, RX.evs, spl, over, ones, Ex.ends, evR, oneOf, top, ↓reduceIte, Nat.reduceEqDiff, Nat.reduceLeDiff, Nat.reduceAdd, Nat.reduceSub, Nat.reduceMul, reduceCtorEq, Int.reduceEq, Int.reduceLT, Int.reduceLE, Int.reduceNeg, Int.reduceAdd, Int.reduceSub]
  refine callK_intro (faulty_ctr _ _ _ _) ?_
  rintro x h3 ⟨rfl, hx4⟩
  rw [known3]
  have hy3 := hy2.trans hx4
  simp +contextual only [n0, ↓wA, wB, wZ, repeatV, RX.evs, spl, over, ones, Ex.ends, evR, oneOf, top, ↓reduceIte, Nat.reduceEqDiff, Nat.reduceLeDiff, Nat.reduceAdd, Nat.reduceSub, Nat.reduceMul, reduceCtorEq, Int.reduceEq, Int.reduceLT, Int.reduceLE, Int.reduceNeg, Int.reduceAdd, Int.reduceSub]
  refine callK_intro (faulty_ctr _ _ _ _) ?_
  rintro x h4 ⟨rfl, hx5⟩
  rw [known4]
  have hy4 := hy3.trans hx5
  simp +contextual only [n0, ↓wA, wB, wZ, repeatV, RX.evs, spl, over, ones, Ex.ends, evR, oneOf, top, ↓reduceIte, Nat.reduceEqDiff, Nat.reduceLeDiff, Nat.reduceAdd, Nat.reduceSub, Nat.reduceMul, reduceCtorEq, Int.reduceEq, Int.reduceLT, Int.reduceLE, Int.reduceNeg, Int.reduceAdd, Int.reduceSub]
  refine callK_intro (faulty_ctr _ _ _ _) ?_
  rintro x h5 ⟨rfl, hx6⟩
  rw [known5]
  have hy5 := hy4.trans hx6
  simp +contextual only [n0, ↓wA, wB, wZ, repeatV, RX.evs, spl, over, ones, Ex.ends, evR, oneOf, top, ↓reduceIte, Nat.reduceEqDiff, Nat.reduceLeDiff, Nat.reduceAdd, Nat.reduceSub, Nat.reduceMul, reduceCtorEq, Int.reduceEq, Int.reduceLT, Int.reduceLE, Int.reduceNeg, Int.reduceAdd, Int.reduceSub]
  refine callK_intro (faulty_ctr _ _ _ _) ?_
  rintro x h6 ⟨rfl, hx7⟩
  rw [known6]
  have hy6 := hy5.trans hx7
  have cv1 : convStr.run (.slice (pa h6.next) 0 4 4) (h6.new (.ofL [.int .u8 97, .int .u8 195, .int .u8 169, .int .u8 255] 0 false)) = .val (.str [97, 195, 169, 255]) (h6.new (.ofL [.int .u8 97, .int .u8 195, .int .u8 169, .int .u8 255] 0 false)) := conv_new [97, 195, 169, 255] h6 (by decide)
  simp +contextual only [n0, cv1, ↓wA, wB, wZ, repeatV, RX.evs, spl, over, ones, Ex.ends, evR, oneOf, top, ↓reduceIte, Nat.reduceEqDiff, Nat.reduceLeDiff, Nat.reduceAdd, Nat.reduceSub, Nat.reduceMul, reduceCtorEq, Int.reduceEq, Int.reduceLT, Int.reduceLE, Int.reduceNeg, Int.reduceAdd, Int.reduceSub]
  have hx8 : Ext h6 (h6.new (.ofL [.int .u8 97, .int .u8 195, .int .u8 169, .int .u8 255] 0 false)) := (Ext.refl h6).new _
  generalize h6.new (.ofL [.int .u8 97, .int .u8 195, .int .u8 169, .int .u8 255] 0 false) = h7 at *
  refine callK_intro (right_ctr _ (by decide) _) ?_
  rintro x h8 ⟨rfl, hx9⟩
  rw [known7]
  have hy8 := (hy6.trans hx8).trans hx9
  have cv2 : convStr.run (.slice (pa h8.next) 0 3 3) (h8.new (.ofL [.int .u8 237, .int .u8 160, .int .u8 128] 0 false)) = .val (.str [237, 160, 128]) (h8.new (.ofL [.int .u8 237, .int .u8 160, .int .u8 128] 0 false)) := conv_new [237, 160, 128] h8 (by decide)
  have n3 : (((3 : Nat) : Int) = 3) = True := eq_true rfl
  simp +contextual only [n3, cv2, ↓wA, wB, wZ, repeatV, RX.evs, spl, over, ones, Ex.ends, evR, oneOf, top, ↓reduceIte, Nat.reduceEqDiff, Nat.reduceLeDiff, Nat.reduceAdd, Nat.reduceSub, Nat.reduceMul, reduceCtorEq, Int.reduceEq, Int.reduceLT, Int.reduceLE, Int.reduceNeg, Int.reduceAdd, Int.reduceSub]
  have hx10 : Ext h8 (h8.new (.ofL [.int .u8 237, .int .u8 160, .int .u8 128] 0 false)) := (Ext.refl h8).new _
  generalize h8.new (.ofL [.int .u8 237, .int .u8 160, .int .u8 128] 0 false) = h9 at *
  refine callK_intro (right_ctr _ (by decide) _) ?_
  rintro x h10 ⟨rfl, hx11⟩
  rw [known8]
  have hy10 := (hy8.trans hx10).trans hx11
  have cv3 : convStr.run (.slice (pa h10.next) 0 2 2) (h10.new (.ofL [.int .u8 195, .int .u8 169] 0 false)) = .val (.str [195, 169]) (h10.new (.ofL [.int .u8 195, .int .u8 169] 0 false)) := conv_new [195, 169] h10 (by decide)
  simp +contextual only [n0, cv3, ↓wA, wB, wZ, repeatV, RX.evs, spl, over, ones, Ex.ends, evR, oneOf, top, ↓reduceIte, Nat.reduceEqDiff, Nat.reduceLeDiff, Nat.reduceAdd, Nat.reduceSub, Nat.reduceMul, reduceCtorEq, Int.reduceEq, Int.reduceLT, Int.reduceLE, Int.reduceNeg, Int.reduceAdd, Int.reduceSub]
  have hx12 : Ext h10 (h10.new (.ofL [.int .u8 195, .int .u8 169] 0 false)) := (Ext.refl h10).new _
  have hn11 : (h10.new (.ofL [.int .u8 195, .int .u8 169] 0 false)).next = h10.next + 1 := next_new _ _
  generalize h10.new (.ofL [.int .u8 195, .int .u8 169] 0 false) = h11 at *
  have hx13 : Ext h11 (h11.new (.ofL (wisV [⟨2, 0, 0, [195, 169]⟩, ⟨1, -1, 0, []⟩]) 0 false)) := (Ext.refl h11).new _
  refine callK_intro (write_ctr _ [⟨2, 0, 0, [195, 169]⟩, ⟨1, -1, 0, []⟩] (h11.new (.ofL (wisV [⟨2, 0, 0, [195, 169]⟩, ⟨1, -1, 0, []⟩]) 0 false)) ⟨rfl, rfl, old_lt (by rw [next_new]; omega), _, .inr ⟨0, false, by first | rw [get_new_self] | (rw [← hn11, get_new_self])⟩, by decide, rfl⟩ (by decide) (by decide)) ?_
  rintro x h12 ⟨rfl, hx14⟩
  rw [known9]
  have hy12 := ((hy10.trans hx12).trans hx13).trans hx14
  simp +contextual only [↓wA, wB, wZ, repeatV, RX.evs, spl, over, ones, Ex.ends, evR, oneOf, top, ↓reduceIte, Nat.reduceEqDiff, Nat.reduceLeDiff, Nat.reduceAdd, Nat.reduceSub, Nat.reduceMul, reduceCtorEq, Int.reduceEq, Int.reduceLT, Int.reduceLE, Int.reduceNeg, Int.reduceAdd, Int.reduceSub]
  refine callK_intro (awake_ctr _) ?_
  rintro x h13 ⟨rfl, hx15⟩
  have hy13 := hy12.trans hx15
  simp +contextual only [↓wA, wB, wZ, repeatV, RX.evs, spl, over, ones, Ex.ends, evR, oneOf, top, ↓reduceIte, Nat.reduceEqDiff, Nat.reduceLeDiff, Nat.reduceAdd, Nat.reduceSub, Nat.reduceMul, reduceCtorEq, Int.reduceEq, Int.reduceLT, Int.reduceLE, Int.reduceNeg, Int.reduceAdd, Int.reduceSub]
  exact hy13
/-- LexKnown -/
theorem lexKnown (h : Heap) : Ctr Tryd.prog 7 [] h fun y _ => y = .bool true := (known_ctr h).mono fun v h' q => q.1
end Go.Proofs.YthcgccnbhdociaaDoor

namespace Go.Proofs.YthcgccnbhdociaaDoor
open Go Am Go.RowKit Go.Proofs Go.Lib

abbrev laidL : List (String × DataW Unit) := Rows.lexTellsRow.laid
theorem errAt_of {n : String} {g : Nat} {t : TypeId} {ms : Array (String × TypeId)} {name : String} {d : DataW Unit} {W : World} (hg : Tryd.prog.globalNamed n = some g) (hty : (Tryd.prog.globals[g]?).map (·.type) = some t) (hi : Tryd.prog.underlying t = some (.interface ms))
    (h : VarReads Tryd.prog W n (.iface name d)) : ErrAt W g := by
  obtain ⟨g', t', cs, fuel, p, h1, h2, h3, h4⟩ := h
  obtain rfl := Option.some.inj (hg.symm.trans h1)
  obtain rfl := Option.some.inj (hty.symm.trans h2)
  obtain ⟨_, u, v, hcs, _, _⟩ := iface_of_trod hi h4
  refine ⟨.iface u v, ?_, .inr ⟨u, v, rfl⟩⟩
  have := World.var?_cell hg h3 0
  rw [this, ← Array.getElem?_toList, hcs]
  rfl
theorem tab_of {n : String} {g : Nat} {t e : TypeId} {m : Nat} {k : IntKind} {zs : List Int} {W : World} (hg : Tryd.prog.globalNamed n = some g) (hty : (Tryd.prog.globals[g]?).map (·.type) = some t) (ht : Tryd.prog.underlying t = some (.array m e)) (he : Tryd.prog.underlying e = some (.int k)) (hce : Tryd.prog.cellsOf e = 1) (hct : Tryd.prog.cellsOf t = m)
    (h : VarReads Tryd.prog W n (tabData k zs)) : TabIs Tryd.prog W n k zs := by
  obtain ⟨g', t', cs, fuel, p, h1, h2, h3, h4⟩ := h
  obtain rfl := Option.some.inj (hg.symm.trans h1)
  obtain rfl := Option.some.inj (hty.symm.trans h2)
  unfold TabIs
  rw [h3, ← cells_of_tab ht he hce hct h4]

theorem u8Types : Go.Proofs.U8Types Tryd.prog Tryd.lays260_ren := Go.Proofs.U8Types.of260 Tryd.lays260
theorem u8Extra : U8Extra Tryd.prog Tryd.lays260_ren := ⟨by kernel_rfl, by kernel_rfl, by kernel_rfl, by kernel_rfl, by kernel_rfl, by kernel_rfl, by kernel_rfl⟩
theorem first_eq : (Rows.laid_unicode_utf8_first : DataW Unit) = firstData := Pinned.utf8First_eq
theorem accept_eq : (Rows.laid_unicode_utf8_acceptRanges : DataW Unit) = acceptData := by kernel_rfl
theorem pow10_eq : (Rows.laid_internal_strconv_uint64pow10 : DataW Unit) = tabData .u64 pow10Tab := by kernel_rfl
theorem g3_eq : Tryd.lays260_ren.g 3 = 0 := by kernel_rfl
theorem g4_eq : Tryd.lays260_ren.g 4 = 1 := by kernel_rfl

theorem libOk_of {l : List (String × DataW Unit)} {W : World} (hm : ∀ p ∈ laidL, p ∈ l) (hL : laidMet Tryd.prog l W) (hsh : W.ShapedOpen Tryd.prog) : LibOk W := by
  have r : ∀ (n : String) (d : DataW Unit), (n, d) ∈ laidL → VarReads Tryd.prog W n d := fun n d h => laidMet.reads hL (hm _ h)
  have hf := r "unicode/utf8.first" Rows.laid_unicode_utf8_first (by simp [laidL, Rows.lexTellsRow])
  have ha := r "unicode/utf8.acceptRanges" Rows.laid_unicode_utf8_acceptRanges (by simp [laidL, Rows.lexTellsRow])
  have hs := r "strconv.ErrSyntax" Rows.laid_strconv_ErrSyntax (by simp [laidL, Rows.lexTellsRow])
  have hr := r "strconv.ErrRange" Rows.laid_strconv_ErrRange (by simp [laidL, Rows.lexTellsRow])
  have hp := r "internal/strconv.uint64pow10" Rows.laid_internal_strconv_uint64pow10 (by simp [laidL, Rows.lexTellsRow])
  rw [first_eq] at hf
  rw [accept_eq] at ha
  rw [pow10_eq] at hp
  refine ⟨?_, ?_, ?_, ?_, ?_⟩
  · have := Go.Proofs.utf8Tabs_of_readsT u8Types u8Extra hf ha
    rwa [g3_eq, g4_eq] at this
  · exact Go.Proofs.cell_of_shapedOpen_int hsh (g := 2) (t := 3) (zero := #[.int .i64 0]) (of_decide_eq_true (by kernel_rfl)) (by kernel_rfl) rfl (by kernel_rfl) (by kernel_rfl) Tryd.underlying3
  · exact errAt_of (n := "strconv.ErrSyntax") (t := 81) (by kernel_rfl) (by kernel_rfl) Tryd.underlying81 hs
  · exact errAt_of (n := "strconv.ErrRange") (t := 81) (by kernel_rfl) (by kernel_rfl) Tryd.underlying81 hr
  · exact tab_of (g := 3) (t := 115) (e := 85) (m := 20) (by kernel_rfl) (by kernel_rfl) (by kernel_rfl) (by kernel_rfl) (by kernel_rfl) (by kernel_rfl) hp
end Go.Proofs.YthcgccnbhdociaaDoor

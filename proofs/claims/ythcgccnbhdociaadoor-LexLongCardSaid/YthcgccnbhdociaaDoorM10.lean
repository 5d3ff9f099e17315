/- The chapter's functions, walked by the abstract machine: plain lemmas, no condition. -/
import Derived.Test.YthcgccnbhdociaaDoorM5
import Derived.Test.YthcgccnbhdociaaDoorM7
import Derived.Test.YthcgccnbhdociaaDoorM9
import Derived.Lay
import Derived.LaidLaws
import Derived.PinnedBridge
import Derived.Lib.LaidU8T
import Derived.Shelf.Vars
import Derived.MakeChecks

namespace Go.Proofs.YthcgccnbhdociaaDoor
open Go Am Go.RowKit Go.Proofs Go.Lib

abbrev laidL : List (String × DataW Unit) := Rows.lexTellsRow.laid
theorem errAt_of {n : String} {g : Nat} {t : TypeId} {ms : Array (String × TypeId)} {name : String} {d : DataW Unit} {W : World} (hg : Tryd.prog.globalNamed n = some g) (hty : (Tryd.prog.globals[g]?).map (·.type) = some t) (hi : Tryd.prog.underlying t = some (.interface ms))
    (h : VarReads Tryd.prog W n (.iface name d)) : ErrAt W g := by
  obtain ⟨g', t', cs, fuel, p, h1, h2, h3, h4⟩ := h
  obtain rfl := Option.some.inj (hg.symm.trans h1)
  obtain rfl := Option.some.inj (hty.symm.trans h2)
  obtain ⟨_, u, v, hcs, _, _⟩ := iface_of_trod hi h4
  refine ⟨.iface u v, ?_, .inr ⟨u, v, rfl⟩⟩
  have := World.var?_cell hg h3 0
  rw [this, ← Array.getElem?_toList, hcs]
  rfl
theorem tab_of {n : String} {g : Nat} {t e : TypeId} {m : Nat} {k : IntKind} {zs : List Int} {W : World} (hg : Tryd.prog.globalNamed n = some g) (hty : (Tryd.prog.globals[g]?).map (·.type) = some t) (ht : Tryd.prog.underlying t = some (.array m e)) (he : Tryd.prog.underlying e = some (.int k)) (hce : Tryd.prog.cellsOf e = 1) (hct : Tryd.prog.cellsOf t = m)
    (h : VarReads Tryd.prog W n (tabData k zs)) : TabIs Tryd.prog W n k zs := by
  obtain ⟨g', t', cs, fuel, p, h1, h2, h3, h4⟩ := h
  obtain rfl := Option.some.inj (hg.symm.trans h1)
  obtain rfl := Option.some.inj (hty.symm.trans h2)
  unfold TabIs
  rw [h3, ← cells_of_tab ht he hce hct h4]

theorem u8Types : Go.Proofs.U8Types Tryd.prog Tryd.lays260_ren := Go.Proofs.U8Types.of260 Tryd.lays260
theorem u8Extra : U8Extra Tryd.prog Tryd.lays260_ren := ⟨by kernel_rfl, by kernel_rfl, by kernel_rfl, by kernel_rfl, by kernel_rfl, by kernel_rfl, by kernel_rfl⟩
theorem first_eq : (Rows.laid_unicode_utf8_first : DataW Unit) = firstData := Pinned.utf8First_eq
theorem accept_eq : (Rows.laid_unicode_utf8_acceptRanges : DataW Unit) = acceptData := by kernel_rfl
theorem pow10_eq : (Rows.laid_internal_strconv_uint64pow10 : DataW Unit) = tabData .u64 pow10Tab := by kernel_rfl
theorem g3_eq : Tryd.lays260_ren.g 3 = 0 := by kernel_rfl
theorem g4_eq : Tryd.lays260_ren.g 4 = 1 := by kernel_rfl

theorem libOk_of {l : List (String × DataW Unit)} {W : World} (hm : ∀ p ∈ laidL, p ∈ l) (hL : laidMet Tryd.prog l W) (hsh : W.ShapedOpen Tryd.prog) : LibOk W := by
  have r : ∀ (n : String) (d : DataW Unit), (n, d) ∈ laidL → VarReads Tryd.prog W n d := fun n d h => laidMet.reads hL (hm _ h)
  have hf := r "unicode/utf8.first" Rows.laid_unicode_utf8_first (by simp [laidL, Rows.lexTellsRow])
  have ha := r "unicode/utf8.acceptRanges" Rows.laid_unicode_utf8_acceptRanges (by simp [laidL, Rows.lexTellsRow])
  have hs := r "strconv.ErrSyntax" Rows.laid_strconv_ErrSyntax (by simp [laidL, Rows.lexTellsRow])
  have hr := r "strconv.ErrRange" Rows.laid_strconv_ErrRange (by simp [laidL, Rows.lexTellsRow])
  have hp := r "internal/strconv.uint64pow10" Rows.laid_internal_strconv_uint64pow10 (by simp [laidL, Rows.lexTellsRow])
  rw [first_eq] at hf
  rw [accept_eq] at ha
  rw [pow10_eq] at hp
  refine ⟨?_, ?_, ?_, ?_, ?_⟩
  · have := Go.Proofs.utf8Tabs_of_readsT u8Types u8Extra hf ha
    rwa [g3_eq, g4_eq] at this
  · exact Go.Proofs.cell_of_shapedOpen_int hsh (g := 2) (t := 3) (zero := #[.int .i64 0]) (of_decide_eq_true (by kernel_rfl)) (by kernel_rfl) rfl (by kernel_rfl) (by kernel_rfl) Tryd.underlying3
  · exact errAt_of (n := "strconv.ErrSyntax") (t := 81) (by kernel_rfl) (by kernel_rfl) Tryd.underlying81 hs
  · exact errAt_of (n := "strconv.ErrRange") (t := 81) (by kernel_rfl) (by kernel_rfl) Tryd.underlying81 hr
  · exact tab_of (g := 3) (t := 115) (e := 85) (m := 20) (by kernel_rfl) (by kernel_rfl) (by kernel_rfl) (by kernel_rfl) (by kernel_rfl) (by kernel_rfl) hp
end Go.Proofs.YthcgccnbhdociaaDoor

/- The chapter's functions, walked by the abstract machine: plain lemmas, no condition. -/
import Derived.Test.YtiahgljogcjjeaaGreatDoorM4
import Derived.Shelf.Strings.Search3
import Derived.Shelf.Strings.OnBuilder
import Derived.Shelf.Strconv.Itoa3
import Derived.Lib.LaidTab
import Derived.WalkSmall
import Derived.MakeChecks
import Derived.Lib.LaidU8
import Derived.Shelf.Vars
import Derived.Lay
import Derived.LaidLaws
import Derived.Test.YtiahgljogcjjeaaGreatDoorRows

namespace Go.Proofs.YtiahgljogcjjeaaGreatDoor
open Go Am Go.RowKit
set_option linter.unusedVariables false

theorem block_lt {w : World} {p : Addr} {v : Value} (h : w.cell? p = some v) : p.block < w.heap.size := by
  unfold World.cell? at h
  by_cases q : p.block < w.heap.size
  · exact q
  · rw [Array.getElem?_eq_none (by omega)] at h
    cases h
/-- what the library's variables hold -/
structure LibOk (w : World) : Prop where
  maxLen : ∃ m, w.cell? ⟨0, 0, none⟩ = some (.int .i64 m)
  pow10 : Lib.TabIs Tryz.prog w "internal/strconv.uint64pow10" .u64 Lib.pow10Tab
noncomputable instance lay : Lay where
  ok w := LibOk w
  keep := by
    intro w w' h hb
    refine ⟨?_, ?_⟩
    · obtain ⟨m, q⟩ := h.maxLen
      exact ⟨m, by rw [hb.cell (block_lt q)]; exact q⟩
    · have hg : Tryz.prog.globalNamed "internal/strconv.uint64pow10" = some 1 := by kernel_rfl
      have hl : 1 < w.heap.size := by
        have q := h.pow10
        unfold Lib.TabIs World.var? at q
        rw [hg] at q
        by_cases hlt : 1 < w.heap.size
        · exact hlt
        · simp only [Option.bind_some] at q
          rw [Array.getElem?_eq_none (by omega)] at q
          cases q
      exact var?_below hb hg hl h.pow10
section
open Go.Proofs Go.Lib
theorem tab_of {n : String} {g : Nat} {t e : TypeId} {m : Nat} {k : IntKind} {zs : List Int} {W : World} (hg : Tryz.prog.globalNamed n = some g) (hty : (Tryz.prog.globals[g]?).map (·.type) = some t) (ht : Tryz.prog.underlying t = some (.array m e)) (he : Tryz.prog.underlying e = some (.int k)) (hce : Tryz.prog.cellsOf e = 1) (hct : Tryz.prog.cellsOf t = m)
    (h : VarReads Tryz.prog W n (tabData k zs)) : TabIs Tryz.prog W n k zs := by
  obtain ⟨g', t', cs, fuel, p, h1, h2, h3, h4⟩ := h
  obtain rfl := Option.some.inj (hg.symm.trans h1)
  obtain rfl := Option.some.inj (hty.symm.trans h2)
  unfold TabIs
  rw [h3, ← cells_of_tab ht he hce hct h4]
theorem pow10_eq : (Rows.laid_internal_strconv_uint64pow10 : DataW Unit) = tabData .u64 pow10Tab := by kernel_rfl

theorem libOk_of {W : World} (hL : laidMet Tryz.prog Rows.printKnownRow.laid W) (hsh : W.ShapedOpen Tryz.prog) : LibOk W := by
  have hp : VarReads Tryz.prog W "internal/strconv.uint64pow10" Rows.laid_internal_strconv_uint64pow10 := laidMet.reads hL (by simp [Rows.printKnownRow])
  rw [pow10_eq] at hp
  exact ⟨Go.Proofs.cell_of_shapedOpen_int hsh (g := 0) (t := 3) (zero := #[.int .i64 0]) (of_decide_eq_true (by kernel_rfl)) (by kernel_rfl) rfl (by kernel_rfl) (by kernel_rfl) Tryz.underlying3,
    tab_of (g := 1) (t := 142) (e := 122) (m := 20) (by kernel_rfl) (by kernel_rfl) (by kernel_rfl) (by kernel_rfl) (by kernel_rfl) (by kernel_rfl) hp⟩
end
section
open Go.Shelf
def Tryz.lays144_ren : Go.Shelf.Ren := ⟨fun | 144 => 54 | 143 => 93 | 219 => 115 | 217 => 126 | 225 => 127 | 224 => 128 | 267 => 129 | 266 => 140 | 314 => 141 | n => n, fun | 9 => 9 | 4 => 4 | 3 => 3 | 5 => 5 | 46 => 113 | 146 => 136 | 51 => 135 | n => n, fun | 1 => 0 | n => n⟩
theorem Tryz.lays144 : Go.Proofs.Lays.n144 Tryz.prog Tryz.lays144_ren := {
  mixed := by kernel_rfl,
  f143 := Tryz.func93.trans (congrArg some (by kernel_rfl)),
  f144 := Tryz.func54.trans (congrArg some (by kernel_rfl)),
  f217 := Tryz.func126.trans (congrArg some (by kernel_rfl)),
  f219 := Tryz.func115.trans (congrArg some (by kernel_rfl)),
  f224 := Tryz.func128.trans (congrArg some (by kernel_rfl)),
  f225 := Tryz.func127.trans (congrArg some (by kernel_rfl)),
  f266 := Tryz.func140.trans (congrArg some (by kernel_rfl)),
  f267 := Tryz.func129.trans (congrArg some (by kernel_rfl)),
  f314 := Tryz.func141.trans (congrArg some (by kernel_rfl)),
  t3 := Tryz.underlying3,
  a3 := Tryz.isAgg3,
  z3 := Tryz.sizeOf3,
  v3 := Tryz.zeroValue3,
  t4 := Tryz.underlying4,
  a4 := Tryz.isAgg4,
  z4 := Tryz.sizeOf4,
  v4 := Tryz.zeroValue4,
  t5 := Tryz.underlying5,
  a5 := Tryz.isAgg5,
  z5 := Tryz.sizeOf5,
  v5 := Tryz.zeroValue5,
  t9 := Tryz.underlying9,
  a9 := Tryz.isAgg9,
  z9 := Tryz.sizeOf9,
  v9 := Tryz.zeroValue9,
  t46 := Tryz.underlying113,
  a46 := Tryz.isAgg113,
  z46 := Tryz.sizeOf113,
  v46 := Tryz.zeroValue113,
  t51 := Tryz.underlying135,
  a51 := Tryz.isAgg135,
  z51 := Tryz.sizeOf135,
  v51 := Tryz.zeroValue135,
  t146 := Tryz.underlying136,
  a146 := Tryz.isAgg136,
  z146 := Tryz.sizeOf136,
  v146 := Tryz.zeroValue136,
  g1 := by kernel_rfl }
def Tryz.lays156_ren : Go.Shelf.Ren := ⟨fun | 156 => 33 | 165 => 58 | 166 => 59 | 169 => 60 | 240 => 96 | 241 => 97 | 276 => 120 | 277 => 121 | n => n, fun | 31 => 60 | 9 => 9 | 3 => 3 | 4 => 4 | 0 => 0 | 20 => 20 | 72 => 82 | 76 => 86 | 70 => 80 | 37 => 59 | 75 => 85 | 127 => 111 | 164 => 127 | 5 => 5 | 80 => 88 | n => n, fun | n => n⟩
theorem Tryz.lays156 : Go.Proofs.Lays.n156 Tryz.prog Tryz.lays156_ren := {
  mixed := by kernel_rfl,
  f156 := Tryz.func33.trans (congrArg some (by kernel_rfl)),
  f165 := Tryz.func58.trans (congrArg some (by kernel_rfl)),
  f166 := Tryz.func59.trans (congrArg some (by kernel_rfl)),
  f169 := Tryz.func60.trans (congrArg some (by kernel_rfl)),
  f240 := Tryz.func96.trans (congrArg some (by kernel_rfl)),
  f241 := Tryz.func97.trans (congrArg some (by kernel_rfl)),
  f276 := Tryz.func120.trans (congrArg some (by kernel_rfl)),
  f277 := Tryz.func121.trans (congrArg some (by kernel_rfl)),
  t0 := Tryz.underlying0,
  a0 := Tryz.isAgg0,
  z0 := Tryz.sizeOf0,
  v0 := Tryz.zeroValue0,
  t3 := Tryz.underlying3,
  a3 := Tryz.isAgg3,
  z3 := Tryz.sizeOf3,
  v3 := Tryz.zeroValue3,
  t4 := Tryz.underlying4,
  a4 := Tryz.isAgg4,
  z4 := Tryz.sizeOf4,
  v4 := Tryz.zeroValue4,
  t9 := Tryz.underlying9,
  a9 := Tryz.isAgg9,
  z9 := Tryz.sizeOf9,
  v9 := Tryz.zeroValue9,
  t20 := Tryz.underlying20,
  a20 := Tryz.isAgg20,
  z20 := Tryz.sizeOf20,
  v20 := Tryz.zeroValue20,
  t31 := Tryz.underlying60,
  a31 := Tryz.isAgg60,
  z31 := Tryz.sizeOf60,
  v31 := Tryz.zeroValue60,
  t37 := Tryz.underlying59,
  a37 := Tryz.isAgg59,
  z37 := Tryz.sizeOf59,
  v37 := Tryz.zeroValue59,
  t70 := Tryz.underlying80,
  a70 := Tryz.isAgg80,
  z70 := Tryz.sizeOf80,
  v70 := Tryz.zeroValue80,
  t72 := Tryz.underlying82,
  a72 := Tryz.isAgg82,
  z72 := Tryz.sizeOf82,
  v72 := Tryz.zeroValue82,
  t75 := Tryz.underlying85,
  a75 := Tryz.isAgg85,
  z75 := Tryz.sizeOf85,
  v75 := Tryz.zeroValue85,
  t76 := Tryz.underlying86,
  a76 := Tryz.isAgg86,
  z76 := Tryz.sizeOf86,
  v76 := Tryz.zeroValue86,
  t127 := Tryz.underlying111,
  a127 := Tryz.isAgg111,
  z127 := Tryz.sizeOf111,
  v127 := Tryz.zeroValue111,
  t164 := Tryz.underlying127,
  a164 := Tryz.isAgg127,
  z164 := Tryz.sizeOf127,
  v164 := Tryz.zeroValue127 }
def Tryz.lays171_ren : Go.Shelf.Ren := ⟨fun | 171 => 31 | 243 => 57 | 246 => 95 | 283 => 116 | 284 => 117 | 285 => 118 | 286 => 119 | 129 => 131 | 317 => 130 | 318 => 132 | 319 => 133 | 320 => 134 | 337 => 142 | 338 => 143 | n => n, fun | 3 => 3 | 9 => 9 | 2 => 2 | 4 => 4 | 171 => 121 | 0 => 0 | 53 => 122 | 37 => 59 | 5 => 5 | 173 => 125 | 212 => 142 | 51 => 135 | 20 => 20 | 213 => 143 | 46 => 113 | 232 => 155 | 233 => 156 | n => n, fun | 17 => 1 | 18 => 2 | 19 => 3 | n => n⟩
theorem Tryz.lays171 : Go.Proofs.LaysM.n171 Tryz.prog Tryz.lays171_ren := {
  mixed := by kernel_rfl,
  f129 := Tryz.func131.trans (congrArg some (by kernel_rfl)),
  f171 := Tryz.func31.trans (congrArg some (by kernel_rfl)),
  f243 := Tryz.func57.trans (congrArg some (by kernel_rfl)),
  f246 := Tryz.func95.trans (congrArg some (by kernel_rfl)),
  f283 := Tryz.func116.trans (congrArg some (by kernel_rfl)),
  f284 := Tryz.func117.trans (congrArg some (by kernel_rfl)),
  f285 := Tryz.func118.trans (congrArg some (by kernel_rfl)),
  f286 := Tryz.func119.trans (congrArg some (by kernel_rfl)),
  f317 := Tryz.func130.trans (congrArg some (by kernel_rfl)),
  f318 := Tryz.func132.trans (congrArg some (by kernel_rfl)),
  f319 := Tryz.func133.trans (congrArg some (by kernel_rfl)),
  f320 := Tryz.func134.trans (congrArg some (by kernel_rfl)),
  f337 := Tryz.func142.trans (congrArg some (by kernel_rfl)),
  f338 := Tryz.func143.trans (congrArg some (by kernel_rfl)),
  t0 := Tryz.underlying0,
  a0 := Tryz.isAgg0,
  z0 := Tryz.sizeOf0,
  v0 := Tryz.zeroValue0,
  t2 := Tryz.underlying2,
  a2 := Tryz.isAgg2,
  z2 := Tryz.sizeOf2,
  v2 := Tryz.zeroValue2,
  t3 := Tryz.underlying3,
  a3 := Tryz.isAgg3,
  z3 := Tryz.sizeOf3,
  v3 := Tryz.zeroValue3,
  t4 := Tryz.underlying4,
  a4 := Tryz.isAgg4,
  z4 := Tryz.sizeOf4,
  v4 := Tryz.zeroValue4,
  t5 := Tryz.underlying5,
  a5 := Tryz.isAgg5,
  z5 := Tryz.sizeOf5,
  v5 := Tryz.zeroValue5,
  t9 := Tryz.underlying9,
  a9 := Tryz.isAgg9,
  z9 := Tryz.sizeOf9,
  v9 := Tryz.zeroValue9,
  t20 := Tryz.underlying20,
  a20 := Tryz.isAgg20,
  z20 := Tryz.sizeOf20,
  v20 := Tryz.zeroValue20,
  t37 := Tryz.underlying59,
  a37 := Tryz.isAgg59,
  z37 := Tryz.sizeOf59,
  v37 := Tryz.zeroValue59,
  t46 := Tryz.underlying113,
  a46 := Tryz.isAgg113,
  z46 := Tryz.sizeOf113,
  v46 := Tryz.zeroValue113,
  t51 := Tryz.underlying135,
  a51 := Tryz.isAgg135,
  z51 := Tryz.sizeOf135,
  v51 := Tryz.zeroValue135,
  t53 := Tryz.underlying122,
  a53 := Tryz.isAgg122,
  z53 := Tryz.sizeOf122,
  v53 := Tryz.zeroValue122,
  t171 := Tryz.underlying121,
  a171 := Tryz.isAgg121,
  z171 := Tryz.sizeOf121,
  v171 := Tryz.zeroValue121,
  t173 := Tryz.underlying125,
  a173 := Tryz.isAgg125,
  z173 := Tryz.sizeOf125,
  v173 := Tryz.zeroValue125,
  t212 := Tryz.underlying142,
  a212 := Tryz.isAgg142,
  z212 := Tryz.sizeOf142,
  v212 := Tryz.zeroValue142,
  t213 := Tryz.underlying143,
  a213 := Tryz.isAgg143,
  z213 := Tryz.sizeOf143,
  t232 := Tryz.underlying155,
  a232 := Tryz.isAgg155,
  z232 := Tryz.sizeOf155,
  v232 := Tryz.zeroValue155,
  t233 := Tryz.underlying156,
  a233 := Tryz.isAgg156,
  z233 := Tryz.sizeOf156,
  v233 := Tryz.zeroValue156,
  g17 := by kernel_rfl,
  g18 := by kernel_rfl,
  g19 := by kernel_rfl,
  i0 := by kernel_rfl,
  i2 := by kernel_rfl,
  i3 := by kernel_rfl,
  i4 := by kernel_rfl,
  i5 := by kernel_rfl,
  i9 := by kernel_rfl,
  i20 := by kernel_rfl,
  i37 := by kernel_rfl,
  i46 := by kernel_rfl,
  i51 := by kernel_rfl,
  i53 := by kernel_rfl,
  i171 := by kernel_rfl,
  i173 := by kernel_rfl,
  i212 := by kernel_rfl,
  i232 := by kernel_rfl,
  i233 := by kernel_rfl,
  m17 := by kernel_rfl,
  m18 := by kernel_rfl,
  m19 := by kernel_rfl }
theorem Tryz.extra156 : Builder.Extra Tryz.prog Tryz.lays156_ren where
  sizeBuilder := by kernel_rfl
  liesBuilder := by kernel_rfl
  t5 := Tryz.underlying5
  a5 := Tryz.isAgg5
  z5 := Tryz.sizeOf5
  v5 := Tryz.zeroValue5
  infoByte := by kernel_rfl
  cellsByte := by kernel_rfl
  sizeByte := by kernel_rfl
  neB5 := by decide
theorem contains_kit (s sub : ByteArray) (m : Int) (w : World) (hs : s.size < 4294967281) (hm : w.cell? ⟨0, 0, none⟩ = some (.int .i64 m)) :
    Calls Tryz.prog 54 #[.string s, .string sub] w fun e w' => e = .returned (.bool (Lib.contains s.data.toList sub.data.toList)) ∧ w' = w := Any.strings_Contains Tryz.lays144 s sub m w hs hm
end


theorem join_kit : JoinK Tryz.prog 33 :=
  ⟨fun bk o c xs sep w h1 h2 h3 h4 h5 => Go.Proofs.Any.strings_Join Tryz.lays156 Tryz.extra156 bk o c xs sep w h1 h2 h3 h4 h5, fun a c sep w => Go.Proofs.Any.strings_Join_none Tryz.lays156 Tryz.extra156 a c sep w⟩
section
open Go.Proofs Go.Sort
theorem below_grow (w : World) (k : Nat) (os : Array Obj) : Below w.heap.size w (grow (w.drewN k) os) :=
  ⟨rfl, rfl, rfl, by simp [grow, World.drewN], fun b hb => by
    simp only [grow, World.drewN]
    rw [Array.getElem?_append_left hb]⟩
theorem itoa_kit : ItoaK Tryz.prog 31 := fun n w hw h0 h1 => (Any.strconv_Itoa Tryz.lays171 n h0 h1 w hw.pow10).mono fun e w' q => by
  obtain ⟨q1, k, os, rfl⟩ := q
  exact ⟨q1, below_grow w k os⟩
end

noncomputable def ctx : Ctx := ⟨Tryz.prog, fun f => bif Nat.beq f 54 then some containsP else bif Nat.beq f 31 then some itoaP else bif Nat.beq f 33 then some joinP else none, fun f => bif Nat.beq f 140 then some indexP else none⟩
theorem follows : Tryz.prog.follows .mixedOrders = true := by kernel_rfl
theorem names : (Tryz.prog.funcs.toList.all fun fn => !(fn.name == "runtime.NumGoroutine")) = true := by kernel_rfl
theorem namesOk : NamesOk Tryz.prog := by
  intro f fn h
  have := List.all_eq_true.1 names fn (List.mem_of_getElem? (i := f) (by simpa using h))
  simpa using this
theorem primOk : PrimOk ctx := by
  refine ⟨fun f p args h v h' hp he => ?_, fun f p args h v h' hp he w0 E w xs hx s => ?_⟩
  · simp only [ctx, cond_beq] at hp
    by_cases hf : f = 54
    · rw [if_pos hf] at hp
      cases hp
      subst hf
      obtain ⟨s, sub, rfl, hs, rfl, rfl⟩ := containsP_some he
      refine ⟨⟨_, Tryz.func54, by kernel_rfl⟩, kit_prim fun E xs w hl hx => ?_⟩
      obtain ⟨y, ys, rfl, q1, z, zs, rfl, q2, rfl⟩ := hx
      simp only [Rel] at q1 q2
      subst q1 q2
      obtain ⟨m, hm⟩ := hl.maxLen
      refine (contains_kit ⟨⟨s⟩⟩ ⟨⟨sub⟩⟩ m w (by show s.length < 4294967281; omega) hm).mono fun e w' q => ?_
      obtain ⟨rfl, rfl⟩ := q
      exact ⟨_, rfl, by simp only [Rel], Below.refl _ _⟩
    · rw [if_neg hf] at hp
      by_cases hf : f = 31
      · rw [if_pos hf] at hp
        cases hp
        subst hf
        exact ⟨⟨_, Tryz.func31, by kernel_rfl⟩, fun w0 E w xs hx s => itoaP_ok itoa_kit he w0 E w xs hx s⟩
      · rw [if_neg hf] at hp
        by_cases hf : f = 33
        · rw [if_pos hf] at hp
          cases hp
          subst hf
          exact ⟨⟨_, Tryz.func33, by kernel_rfl⟩, fun w0 E w xs hx s => joinP_ok join_kit he w0 E w xs hx s⟩
        · rw [if_neg hf] at hp; cases hp
  · simp only [ctx, cond_beq] at hp
    by_cases hf : f = 140
    · rw [if_pos hf] at hp
      cases hp
      subst hf
      exact indexP_ext (P := Tryz.prog) Tryz.func140 (by kernel_rfl) (by kernel_rfl) (by kernel_rfl) (by kernel_rfl) he w0 E w xs hx s
    · rw [if_neg hf] at hp; cases hp
end Go.Proofs.YtiahgljogcjjeaaGreatDoor

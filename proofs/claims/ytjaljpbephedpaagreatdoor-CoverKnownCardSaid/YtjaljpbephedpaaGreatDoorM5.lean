/- The chapter's functions, walked by the abstract machine: plain lemmas, no condition. -/
import Derived.Test.YtjaljpbephedpaaGreatDoorM4
import Derived.Shelf.Strings.Search3
import Derived.MakeChecks
import Derived.Shelf.Vars
import Derived.Lay
import Derived.LaidLaws
import Derived.Test.YtjaljpbephedpaaGreatDoorRows

namespace Go.Proofs.YtjaljpbephedpaaGreatDoor
open Go Am Go.RowKit
set_option linter.unusedVariables false

theorem block_lt {w : World} {p : Addr} {v : Value} (h : w.cell? p = some v) : p.block < w.heap.size := by
  unfold World.cell? at h
  by_cases q : p.block < w.heap.size
  · exact q
  · rw [Array.getElem?_eq_none (by omega)] at h
    cases h
/-- what the library's variables hold -/
def LibOk (w : World) : Prop := ∃ m, w.cell? ⟨2, 0, none⟩ = some (.int .i64 m)
noncomputable instance lay : Lay where
  ok w := LibOk w
  keep := by
    rintro w w' ⟨m, q⟩ hb
    exact ⟨m, by rw [hb.cell (block_lt q)]; exact q⟩
theorem libOk_of {W : World} (hsh : W.ShapedOpen Tryz.prog) : LibOk W :=
  Go.Proofs.cell_of_shapedOpen_int hsh (g := 2) (t := 3) (zero := #[.int .i64 0]) (of_decide_eq_true (by kernel_rfl)) (by kernel_rfl) rfl (by kernel_rfl) (by kernel_rfl) Tryz.underlying3

section
open Go.Shelf
def Tryz.lays144_ren : Go.Shelf.Ren := ⟨fun | 144 => 101 | 143 => 125 | 219 => 152 | 217 => 64 | 225 => 172 | 224 => 173 | 267 => 174 | 266 => 95 | 314 => 186 | n => n, fun | 9 => 9 | 4 => 4 | 3 => 3 | 5 => 5 | 46 => 194 | 146 => 219 | 51 => 218 | n => n, fun | 1 => 2 | n => n⟩
theorem Tryz.lays144 : Go.Proofs.Lays.n144 Tryz.prog Tryz.lays144_ren := {
  mixed := by kernel_rfl,
  f143 := Tryz.func125.trans (congrArg some (by kernel_rfl)),
  f144 := Tryz.func101.trans (congrArg some (by kernel_rfl)),
  f217 := Tryz.func64.trans (congrArg some (by kernel_rfl)),
  f219 := Tryz.func152.trans (congrArg some (by kernel_rfl)),
  f224 := Tryz.func173.trans (congrArg some (by kernel_rfl)),
  f225 := Tryz.func172.trans (congrArg some (by kernel_rfl)),
  f266 := Tryz.func95.trans (congrArg some (by kernel_rfl)),
  f267 := Tryz.func174.trans (congrArg some (by kernel_rfl)),
  f314 := Tryz.func186.trans (congrArg some (by kernel_rfl)),
  t3 := Tryz.underlying3,
  a3 := Tryz.isAgg3,
  z3 := Tryz.sizeOf3,
  v3 := Tryz.zeroValue3,
  t4 := Tryz.underlying4,
  a4 := Tryz.isAgg4,
  z4 := Tryz.sizeOf4,
  v4 := Tryz.zeroValue4,
  t5 := Tryz.underlying5,
  a5 := Tryz.isAgg5,
  z5 := Tryz.sizeOf5,
  v5 := Tryz.zeroValue5,
  t9 := Tryz.underlying9,
  a9 := Tryz.isAgg9,
  z9 := Tryz.sizeOf9,
  v9 := Tryz.zeroValue9,
  t46 := Tryz.underlying194,
  a46 := Tryz.isAgg194,
  z46 := Tryz.sizeOf194,
  v46 := Tryz.zeroValue194,
  t51 := Tryz.underlying218,
  a51 := Tryz.isAgg218,
  z51 := Tryz.sizeOf218,
  v51 := Tryz.zeroValue218,
  t146 := Tryz.underlying219,
  a146 := Tryz.isAgg219,
  z146 := Tryz.sizeOf219,
  v146 := Tryz.zeroValue219,
  g1 := by kernel_rfl }
theorem contains_kit (s sub : ByteArray) (m : Int) (w : World) (hs : s.size < 4294967281) (hm : w.cell? ⟨2, 0, none⟩ = some (.int .i64 m)) :
    Calls Tryz.prog 101 #[.string s, .string sub] w fun e w' => e = .returned (.bool (Lib.contains s.data.toList sub.data.toList)) ∧ w' = w := Any.strings_Contains Tryz.lays144 s sub m w hs hm
end

noncomputable def ctx : Ctx := ⟨Tryz.prog, fun f => bif Nat.beq f 101 then some containsP else none, fun f => bif Nat.beq f 95 then some indexP else none⟩
theorem follows : ctx.P.follows .mixedOrders = true := by kernel_rfl
theorem namesOk : NamesOk ctx.P := by
  intro f fn hf
  have hall : (Tryz.prog.funcs.toList.all fun fn => !(fn.name == "runtime.NumGoroutine")) = true := by kernel_rfl
  have := List.all_eq_true.1 hall fn (Array.mem_toList_iff.2 (Array.mem_of_getElem? hf))
  simpa using this
theorem primOk : PrimOk ctx := by
  refine ⟨fun f p args h v h' hp he => ?_, fun f p args h v h' hp he w0 E w xs hx s => ?_⟩
  · simp only [ctx, cond_beq] at hp
    by_cases hf : f = 101
    · rw [if_pos hf] at hp
      cases hp
      subst hf
      obtain ⟨s, sub, rfl, hs, rfl, rfl⟩ := containsP_some he
      refine ⟨⟨_, Tryz.func101, by kernel_rfl⟩, kit_prim fun E xs w hl hx => ?_⟩
      obtain ⟨y, ys, rfl, q1, z, zs, rfl, q2, rfl⟩ := hx
      simp only [Rel] at q1 q2
      subst q1 q2
      obtain ⟨m, hm⟩ := hl
      refine (contains_kit ⟨⟨s⟩⟩ ⟨⟨sub⟩⟩ m w (by show s.length < 4294967281; omega) hm).mono fun e w' q => ?_
      obtain ⟨rfl, rfl⟩ := q
      exact ⟨_, rfl, by simp only [Rel], Below.refl _ _⟩
    · rw [if_neg hf] at hp; cases hp
  · simp only [ctx, cond_beq] at hp
    by_cases hf : f = 95
    · rw [if_pos hf] at hp
      cases hp
      subst hf
      exact indexP_ext (P := Tryz.prog) Tryz.func95 (by kernel_rfl) (by kernel_rfl) (by kernel_rfl) (by kernel_rfl) he w0 E w xs hx s
    · rw [if_neg hf] at hp; cases hp
end Go.Proofs.YtjaljpbephedpaaGreatDoor

/- The chapter's functions, walked by the abstract machine: plain lemmas, no condition. -/
import Derived.Test.YtpfmfpakbfkfoaaGreatDoorM5
import Derived.Shelf.Strings.Search3
import Derived.MakeChecks
import Derived.Shelf.Vars
import Derived.Lay
import Derived.LaidLaws
import Derived.Test.YtpfmfpakbfkfoaaGreatDoorRows
set_option linter.unusedSectionVars false
set_option linter.unusedSimpArgs false
set_option linter.unusedVariables false

namespace Go.Proofs.YtpfmfpakbfkfoaaGreatDoor
open Go Am Go.RowKit
set_option linter.unusedVariables false

theorem block_lt {w : World} {p : Addr} {v : Value} (h : w.cell? p = some v) : p.block < w.heap.size := by
  unfold World.cell? at h
  by_cases q : p.block < w.heap.size
  · exact q
  · rw [Array.getElem?_eq_none (by omega)] at h
    cases h
/-- what the library's variables hold -/
def LibOk (w : World) : Prop := ∃ m, w.cell? ⟨2, 0, none⟩ = some (.int .i64 m)
theorem libOk_keep {w w' : World} (h : LibOk w) (hb : Below w.heap.size w w') : LibOk w' := by
  obtain ⟨m, q⟩ := h
  exact ⟨m, by rw [hb.cell (block_lt q)]; exact q⟩
/-- which numbers stand for which, and what comes of them -/
class Nums where
  val : Nat → Int
  tab : List TabB
  cnv : List TabC
  fine : ∀ e ∈ tab, (numC e.op).run (e.x.den val) (e.y.den val) = some (e.v.den val)
  fair : ∀ e ∈ cnv, ∃ j n, e.x.den val = .int j n ∧ e.v.den val = .int e.k (e.k.wrap n)
noncomputable instance lay [T : Nums] : Lay where
  ok := LibOk
  keep := libOk_keep
  val := T.val
  tab := T.tab
  cnv := T.cnv
  fine := T.fine
  fair := T.fair
theorem libOk_of {W : World} (hsh : W.ShapedOpen Tryz.prog) : LibOk W :=
  Go.Proofs.cell_of_shapedOpen_int hsh (g := 2) (t := 3) (zero := #[.int .i64 0]) (of_decide_eq_true (by kernel_rfl)) (by kernel_rfl) rfl (by kernel_rfl) (by kernel_rfl) Tryz.underlying3

section
open Go.Shelf
def Tryz.lays144_ren : Go.Shelf.Ren := ⟨fun | 144 => 119 | 143 => 147 | 219 => 175 | 217 => 71 | 225 => 196 | 224 => 197 | 267 => 198 | 266 => 113 | 314 => 208 | n => n, fun | 9 => 9 | 4 => 4 | 3 => 3 | 5 => 5 | 46 => 211 | 146 => 245 | 51 => 244 | n => n, fun | 1 => 2 | n => n⟩
theorem Tryz.lays144 : Go.Proofs.Lays.n144 Tryz.prog Tryz.lays144_ren := {
  mixed := by kernel_rfl,
  f143 := Tryz.func147.trans (congrArg some (by kernel_rfl)),
  f144 := Tryz.func119.trans (congrArg some (by kernel_rfl)),
  f217 := Tryz.func71.trans (congrArg some (by kernel_rfl)),
  f219 := Tryz.func175.trans (congrArg some (by kernel_rfl)),
  f224 := Tryz.func197.trans (congrArg some (by kernel_rfl)),
  f225 := Tryz.func196.trans (congrArg some (by kernel_rfl)),
  f266 := Tryz.func113.trans (congrArg some (by kernel_rfl)),
  f267 := Tryz.func198.trans (congrArg some (by kernel_rfl)),
  f314 := Tryz.func208.trans (congrArg some (by kernel_rfl)),
  t3 := Tryz.underlying3,
  a3 := Tryz.isAgg3,
  z3 := Tryz.sizeOf3,
  v3 := Tryz.zeroValue3,
  t4 := Tryz.underlying4,
  a4 := Tryz.isAgg4,
  z4 := Tryz.sizeOf4,
  v4 := Tryz.zeroValue4,
  t5 := Tryz.underlying5,
  a5 := Tryz.isAgg5,
  z5 := Tryz.sizeOf5,
  v5 := Tryz.zeroValue5,
  t9 := Tryz.underlying9,
  a9 := Tryz.isAgg9,
  z9 := Tryz.sizeOf9,
  v9 := Tryz.zeroValue9,
  t46 := Tryz.underlying211,
  a46 := Tryz.isAgg211,
  z46 := Tryz.sizeOf211,
  v46 := Tryz.zeroValue211,
  t51 := Tryz.underlying244,
  a51 := Tryz.isAgg244,
  z51 := Tryz.sizeOf244,
  v51 := Tryz.zeroValue244,
  t146 := Tryz.underlying245,
  a146 := Tryz.isAgg245,
  z146 := Tryz.sizeOf245,
  v146 := Tryz.zeroValue245,
  g1 := by kernel_rfl }
theorem contains_kit (s sub : ByteArray) (m : Int) (w : World) (hs : s.size < 4294967281) (hm : w.cell? ⟨2, 0, none⟩ = some (.int .i64 m)) :
    Calls Tryz.prog 119 #[.string s, .string sub] w fun e w' => e = .returned (.bool (Lib.contains s.data.toList sub.data.toList)) ∧ w' = w := Any.strings_Contains Tryz.lays144 s sub m w hs hm
end

section
variable [Nums]
noncomputable def ctx : Ctx := ⟨Tryz.prog, fun f => bif Nat.beq f 119 then some containsP else none, fun f => bif Nat.beq f 113 then some indexP else none⟩
theorem follows : ctx.P.follows .mixedOrders = true := by kernel_rfl
theorem namesOk : NamesOk ctx.P := by
  intro f fn hf
  have hall : (Tryz.prog.funcs.toList.all fun fn => !(fn.name == "runtime.NumGoroutine")) = true := by kernel_rfl
  have := List.all_eq_true.1 hall fn (Array.mem_toList_iff.2 (Array.mem_of_getElem? hf))
  simpa using this
theorem primOk : PrimOk ctx := by
  refine ⟨fun f p args h v h' hp he => ?_, fun f p args h v h' hp he w0 E w xs hx s => ?_⟩
  · simp only [ctx, cond_beq] at hp
    by_cases hf : f = 119
    · rw [if_pos hf] at hp
      cases hp
      subst hf
      obtain ⟨s, sub, rfl, hs, rfl, rfl⟩ := containsP_some he
      refine ⟨⟨_, Tryz.func119, by kernel_rfl⟩, kit_prim fun E xs w hl hx => ?_⟩
      obtain ⟨y, ys, rfl, q1, z, zs, rfl, q2, rfl⟩ := hx
      simp only [Rel] at q1 q2
      subst q1 q2
      obtain ⟨m, hm⟩ := hl
      refine (contains_kit ⟨⟨s⟩⟩ ⟨⟨sub⟩⟩ m w (by show s.length < 4294967281; omega) hm).mono fun e w' q => ?_
      obtain ⟨rfl, rfl⟩ := q
      exact ⟨_, rfl, by simp only [Rel], Below.refl _ _⟩
    · rw [if_neg hf] at hp; cases hp
  · simp only [ctx, cond_beq] at hp
    by_cases hf : f = 113
    · rw [if_pos hf] at hp
      cases hp
      subst hf
      exact indexP_ext (P := Tryz.prog) Tryz.func113 (by kernel_rfl) (by kernel_rfl) (by kernel_rfl) (by kernel_rfl) he w0 E w xs hx s
    · rw [if_neg hf] at hp; cases hp
end
/-- calls of f that are true at just these arguments -/
noncomputable def closedC (C : Ctx) (f : FuncId) (ls : List (List V)) : Ctx := ⟨C.P, fun g => bif Nat.beq g f then some (closedP ls) else C.prim g, C.ext⟩
theorem closedC_ok [Nums] {C : Ctx} (hP : PrimOk C) (hM : C.P.follows .mixedOrders = true) (hN : NamesOk C.P) {f : FuncId} (hf : Nat.beq f yieldId = false) (hx : C.ext f = none) {ls : List (List V)}
    (hrun : ∀ l ∈ ls, l.all V.plain = true ∧ ∃ n, truly C n f l = true) : PrimOk (closedC C f ls) := by
  refine ⟨fun g p args h v h' hp he => ?_, hP.2⟩
  simp only [closedC, cond_beq] at hp
  by_cases hg : g = f
  · rw [if_pos hg] at hp
    cases hp
    subst hg
    exact closedP_ok hM hN hP hf hx hrun he
  · rw [if_neg hg] at hp
    exact hP.1 g p args h v h' hp he
end Go.Proofs.YtpfmfpakbfkfoaaGreatDoor

namespace Go.Proofs.YtpfmfpakbfkfoaaGreatDoor
open Go Am
set_option maxRecDepth 100000 in
theorem awake_run [Nums] : truly ctx 100000 4 [] = true := by kernel_rfl
noncomputable def ctxA : Ctx := closedC ctx 4 [[]]
theorem ctxA_ok [Nums] : PrimOk ctxA := closedC_ok primOk follows namesOk (by decide) rfl fun l hl => by
  simp only [List.mem_singleton] at hl
  subst hl
  exact ⟨rfl, _, awake_run⟩
end Go.Proofs.YtpfmfpakbfkfoaaGreatDoor

namespace Go.Proofs.YtpfmfpakbfkfoaaGreatDoor
open Go Am
/-! Numbers that are stood for: 0 which, 1, 2 the two, 3 what comes of them, 4 .. 8 the law's way to what is wanted, 9 .. 12 the program's; 13 a quotient that is not asked for. -/
def i64 (n : Int) : V := .int .i64 n
def s64 (n : Nat) : V := .sym .i64 n
def rng (x : Nat) : List TabB := [⟨.lss, s64 x, i64 (-1073741824), .bool false⟩, ⟨.gtr, s64 x, i64 1073741823, .bool false⟩]
def base (r : Int) : List TabB := ⟨.rem, s64 0, i64 8, i64 r⟩ :: (rng 1 ++ rng 2)
def arith (op : BinOp) : List TabB := [⟨op, s64 1, s64 2, s64 3⟩, ⟨.rem, s64 3, i64 2147483648, s64 4⟩, ⟨.add, s64 4, i64 2147483648, s64 5⟩, ⟨.add, s64 5, i64 1073741824, s64 6⟩, ⟨.rem, s64 6, i64 2147483648, s64 7⟩, ⟨.sub, s64 7, i64 1073741824, s64 8⟩] ++ rng 8 ++ [⟨.shl, s64 3, .int .u64 1, s64 9⟩, ⟨.shr, s64 11, .int .u64 1, s64 12⟩, ⟨.eql, s64 12, s64 8, .bool true⟩]
def arithC : List TabC := [⟨.i32, s64 9, .sym .i32 10⟩, ⟨.i64, .sym .i32 10, s64 11⟩]
def cmp (op : BinOp) (b : Bool) : List TabB := [⟨op, s64 1, s64 2, .bool b⟩]
def zer (b : Bool) : List TabB := [⟨.eql, s64 2, i64 0, .bool b⟩]
def modu : List TabB := ⟨.quo, s64 1, s64 2, s64 13⟩ :: arith .rem
end Go.Proofs.YtpfmfpakbfkfoaaGreatDoor

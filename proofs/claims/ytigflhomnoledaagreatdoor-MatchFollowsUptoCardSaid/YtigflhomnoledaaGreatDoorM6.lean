/- The chapter's functions, walked by the abstract machine: plain lemmas, no condition. -/
import Derived.Test.YtigflhomnoledaaGreatDoorM5
import Derived.Test.YtigflhomnoledaaGreatDoorM4
import Derived.Shelf.Strings.Search3
import Derived.MakeChecks
import Derived.Shelf.Vars
import Derived.Lay
import Derived.LaidLaws
import Derived.Test.YtigflhomnoledaaGreatDoorRows
set_option linter.unusedSectionVars false
set_option linter.unusedSimpArgs false
set_option linter.unusedVariables false
namespace Go.Proofs.YtigflhomnoledaaGreatDoor
open Go Am
inductive Tr where
  | mk (k n : Int) (l : List Tr)
namespace Tr
def k : Tr → Int | mk k _ _ => k
def n : Tr → Int | mk _ n _ => n
def l : Tr → List Tr | mk _ _ l => l
end Tr
mutual
def Tr.size : Tr → Nat
  | .mk _ _ l => 1 + sizes l
def sizes : List Tr → Nat
  | [] => 0
  | t :: l => t.size + sizes l
end
theorem size_in {t : Tr} : ∀ {l : List Tr}, t ∈ l → t.size ≤ sizes l
  | [], h => by cases h
  | u :: l, h => by
    simp only [sizes]
    rcases List.mem_cons.1 h with rfl | h
    · omega
    · have := size_in h; omega
theorem size_kid {t u : Tr} (h : u ∈ t.l) : u.size < t.size := by
  cases t with
  | mk k n l => have := size_in h; simp only [Tr.size]; simp only [Tr.l] at this; omega
mutual
def Tr.enc : Tr → List D
  | .mk k n l => [.i .i64 k, .i .i64 n, .l 3 (encs l)]
def encs : List Tr → List (List D)
  | [] => []
  | t :: l => t.enc :: encs l
end
theorem encs_map : ∀ l : List Tr, encs l = l.map Tr.enc
  | [] => rfl
  | t :: l => by rw [encs, encs_map l, List.map_cons]
theorem enc_eq (t : Tr) : t.enc = [.i .i64 t.k, .i .i64 t.n, .l 3 (t.l.map Tr.enc)] := by
  cases t with
  | mk k n l => simp only [Tr.enc, encs_map, Tr.k, Tr.n, Tr.l]
structure Ch where
  kind : Int
  row : Int
  path : List Int
  num : Bool
  n : Int
  yes : Int
  no : Int
def Ch.enc (c : Ch) : List D := [.i .i64 c.kind, .i .i64 c.row, .l 1 (c.path.map encI), .b c.num, .i .i64 c.n, .i .i64 c.yes, .i .i64 c.no]
mutual
def mayT : Tr → Bool
  | .mk k n l => if k = 1 then decide (-1073741824 ≤ n) && decide (n ≤ 1073741823) && decide (l.length = 0) else if k = 3 then decide (n = 0) && decide (l.length = 0)
    else if k = 2 then maysT l && decide (0 ≤ n) && decide (n ≤ 1048575) else false
def maysT : List Tr → Bool
  | [] => true
  | t :: l => mayT t && maysT l
end
def atT : Tr → List Int → Option Tr
  | t, [] => some t
  | t, i :: p => if i < 0 ∨ (t.l.length : Int) ≤ i then none else match t.l[i.toNat]? with
    | some u => atT u p
    | none => none
def chB (len : Nat) (i : Nat) (c : Ch) : Bool :=
  if c.kind = 1 then !(decide (c.yes ≤ i) || decide (c.no ≤ i) || decide ((len : Int) ≤ c.yes) || decide ((len : Int) ≤ c.no)) else decide (c.kind = 2) || decide (c.kind = 3)
def chsB (len : Nat) : Nat → List Ch → Bool
  | _, [] => true
  | i, c :: l => chB len i c && chsB len (i + 1) l
def decB (d : List Ch) : Bool := chsB d.length 0 d && decide (0 < d.length)
def goM (d : List Ch) (v : Tr) : Nat → Nat → Nat → Int × Int × Int
  | 0, _, _ => (0, 0, 2)
  | f + 1, i, asked => match d[i]? with
    | none => (0, 0, 2)
    | some c => if c.kind = 2 then (if c.row < 0 then (0, 0, 2) else (c.row, asked, 0)) else if c.kind = 3 then (-1, asked, 0)
      else match atT v c.path with
        | none => (0, 0, 2)
        | some x => if x.k = (if c.num then 1 else 2) then goM d v f (if x.n = c.n then c.yes else c.no).toNat (asked + 1) else (0, 0, 2)
def followM (d : List Ch) (v : Tr) : Int × Int × Int := if decB d && mayT v then goM d v d.length 0 0 else (0, 0, 2)
end Go.Proofs.YtigflhomnoledaaGreatDoor
namespace Go.Proofs.YtigflhomnoledaaGreatDoor
open Go Am Go.RowKit
theorem block_lt {w : World} {p : Addr} {v : Value} (h : w.cell? p = some v) : p.block < w.heap.size := by
  unfold World.cell? at h
  by_cases q : p.block < w.heap.size
  · exact q
  · rw [Array.getElem?_eq_none (by omega)] at h
    cases h
def LibOk (w : World) : Prop := ∃ m, w.cell? ⟨2, 0, none⟩ = some (.int .i64 m)
noncomputable instance lay : Lay where
  ok w := LibOk w
  keep := by
    rintro w w' ⟨m, q⟩ hb
    exact ⟨m, by rw [hb.cell (block_lt q)]; exact q⟩
theorem libOk_of {W : World} (hsh : W.ShapedOpen Tryz.prog) : LibOk W :=
  Go.Proofs.cell_of_shapedOpen_int hsh (g := 2) (t := 3) (zero := #[.int .i64 0]) (of_decide_eq_true (by kernel_rfl)) (by kernel_rfl) rfl (by kernel_rfl) (by kernel_rfl) Tryz.underlying3
section
open Go.Shelf
def Tryz.lays144_ren : Go.Shelf.Ren := ⟨fun | 144 => 113 | 143 => 117 | 219 => 125 | 217 => 97 | 225 => 130 | 224 => 131 | 267 => 132 | 266 => 107 | 314 => 134 | n => n, fun | 9 => 9 | 4 => 4 | 3 => 3 | 5 => 5 | 46 => 132 | 146 => 145 | 51 => 144 | n => n, fun | 1 => 2 | n => n⟩
theorem Tryz.lays144 : Go.Proofs.Lays.n144 Tryz.prog Tryz.lays144_ren := {
  mixed := by kernel_rfl,
  f143 := Tryz.func117.trans (congrArg some (by kernel_rfl)),
  f144 := Tryz.func113.trans (congrArg some (by kernel_rfl)),
  f217 := Tryz.func97.trans (congrArg some (by kernel_rfl)),
  f219 := Tryz.func125.trans (congrArg some (by kernel_rfl)),
  f224 := Tryz.func131.trans (congrArg some (by kernel_rfl)),
  f225 := Tryz.func130.trans (congrArg some (by kernel_rfl)),
  f266 := Tryz.func107.trans (congrArg some (by kernel_rfl)),
  f267 := Tryz.func132.trans (congrArg some (by kernel_rfl)),
  f314 := Tryz.func134.trans (congrArg some (by kernel_rfl)),
  t3 := Tryz.underlying3,
  a3 := Tryz.isAgg3,
  z3 := Tryz.sizeOf3,
  v3 := Tryz.zeroValue3,
  t4 := Tryz.underlying4,
  a4 := Tryz.isAgg4,
  z4 := Tryz.sizeOf4,
  v4 := Tryz.zeroValue4,
  t5 := Tryz.underlying5,
  a5 := Tryz.isAgg5,
  z5 := Tryz.sizeOf5,
  v5 := Tryz.zeroValue5,
  t9 := Tryz.underlying9,
  a9 := Tryz.isAgg9,
  z9 := Tryz.sizeOf9,
  v9 := Tryz.zeroValue9,
  t46 := Tryz.underlying132,
  a46 := Tryz.isAgg132,
  z46 := Tryz.sizeOf132,
  v46 := Tryz.zeroValue132,
  t51 := Tryz.underlying144,
  a51 := Tryz.isAgg144,
  z51 := Tryz.sizeOf144,
  v51 := Tryz.zeroValue144,
  t146 := Tryz.underlying145,
  a146 := Tryz.isAgg145,
  z146 := Tryz.sizeOf145,
  v146 := Tryz.zeroValue145,
  g1 := by kernel_rfl }
theorem contains_kit (s sub : ByteArray) (m : Int) (w : World) (hs : s.size < 4294967281) (hm : w.cell? ⟨2, 0, none⟩ = some (.int .i64 m)) :
    Calls Tryz.prog 113 #[.string s, .string sub] w fun e w' => e = .returned (.bool (Lib.contains s.data.toList sub.data.toList)) ∧ w' = w := Any.strings_Contains Tryz.lays144 s sub m w hs hm
end
noncomputable def ctx : Ctx := ⟨Tryz.prog, fun f => bif Nat.beq f 113 then some containsP else none, fun f => bif Nat.beq f 107 then some indexP else none⟩
theorem follows : Tryz.prog.follows .mixedOrders = true := by kernel_rfl
theorem names : (Tryz.prog.funcs.toList.all fun fn => !(fn.name == "runtime.NumGoroutine")) = true := by kernel_rfl
theorem namesOk : NamesOk Tryz.prog := by
  intro f fn h
  have := List.all_eq_true.1 names fn (List.mem_of_getElem? (i := f) (by simpa using h))
  simpa using this
theorem primOk : PrimOk ctx := by
  refine ⟨fun f p args h v h' hp he => ?_, fun f p args h v h' hp he w0 E w xs hx s => ?_⟩
  · simp only [ctx, cond_beq] at hp
    by_cases hf : f = 113
    · rw [if_pos hf] at hp
      cases hp
      subst hf
      obtain ⟨s, sub, rfl, hs, rfl, rfl⟩ := containsP_some he
      refine ⟨⟨_, Tryz.func113, by kernel_rfl⟩, kit_prim fun E xs w hl hx => ?_⟩
      obtain ⟨y, ys, rfl, q1, z, zs, rfl, q2, rfl⟩ := hx
      simp only [Rel] at q1 q2
      subst q1 q2
      obtain ⟨m, hm⟩ := hl
      refine (contains_kit ⟨⟨s⟩⟩ ⟨⟨sub⟩⟩ m w (by show s.length < 4294967281; omega) hm).mono fun e w' q => ?_
      obtain ⟨rfl, rfl⟩ := q
      exact ⟨_, rfl, by simp only [Rel], Below.refl _ _⟩
    · rw [if_neg hf] at hp; cases hp
  · simp only [ctx, cond_beq] at hp
    by_cases hf : f = 107
    · rw [if_pos hf] at hp
      cases hp
      subst hf
      exact indexP_ext (P := Tryz.prog) Tryz.func107 (by kernel_rfl) (by kernel_rfl) (by kernel_rfl) (by kernel_rfl) he w0 E w xs hx s
    · rw [if_neg hf] at hp; cases hp
end Go.Proofs.YtigflhomnoledaaGreatDoor
namespace Go.Proofs.YtigflhomnoledaaGreatDoor
open Go Am
abbrev J0 (d x0 : Nat) : GO := ⟨some d, .mv (.t x0), none, [x0]⟩
abbrev J1 (d x0 : Nat) : GO := ⟨some d, .ld1 (.t x0), none, [x0]⟩
abbrev J2 (d : Nat) : GO := ⟨some d, .mv (.c (.int .i64 0)), none, []⟩
abbrev J3 (d : Nat) : GO := ⟨some d, .mv (.c (.bool false)), none, []⟩
abbrev J4 (d x0 x1 : Nat) : GO := ⟨some d, .pick (.t x0) (.t x1) (.c (.bool false)), none, [x0, x1]⟩
abbrev J5 (d x0 : Nat) : GO := ⟨some d, .fa 2 (.t x0), none, [x0]⟩
abbrev J6 (d x0 : Nat) : GO := ⟨some d, .ldn 3 (.t x0), none, [x0]⟩
abbrev J7 (d x0 : Nat) : GO := ⟨some d, .fa 1 (.t x0), none, [x0]⟩
abbrev J8 (d x0 x1 : Nat) : GO := ⟨some d, .ld1 (.t x0), (some (x1, true)), [x0, x1]⟩
abbrev J9 (d x0 : Nat) : GO := ⟨some d, .len .slice (.t x0), none, [x0]⟩
abbrev J10 (d x0 x1 : Nat) : GO := ⟨some d, .ld1 (.t x0), (some (x1, false)), [x0, x1]⟩
abbrev J11 (d x0 x1 : Nat) : GO := ⟨some d, .mv (.t x0), (some (x1, false)), [x0, x1]⟩
abbrev J12 (d x0 x1 : Nat) : GO := ⟨some d, .pick (.t x0) (.c (.bool true)) (.t x1), none, [x0, x1]⟩
abbrev J13 (d x0 : Nat) : GO := ⟨some d, .fa 0 (.t x0), none, [x0]⟩
abbrev J14 (d x0 x1 : Nat) : GO := ⟨some d, .mv (.t x0), (some (x1, true)), [x0, x1]⟩
abbrev J15 (d x0 : Nat) : GO := ⟨some d, .bin (.int .add) (.t x0) (.c (.int .i64 1)), none, [x0]⟩
abbrev J16 (d x0 : Nat) : GO := ⟨some d, .box (.t x0), none, [x0]⟩
abbrev J17 (d x0 x1 : Nat) : GO := ⟨some d, .bin (.int .lss) (.t x0) (.t x1), none, [x0, x1]⟩
abbrev J18 (d : Nat) : GO := ⟨some d, .mv (.c (.int .i64 2)), none, []⟩
abbrev J19 (d x0 : Nat) : GO := ⟨some d, .ldn 7 (.t x0), none, [x0]⟩
abbrev J20 (d x0 x1 : Nat) : GO := ⟨some d, .ia 7 (.t x0) (.t x1), none, [x0, x1]⟩
abbrev J21 (d x0 : Nat) : GO := ⟨some d, .un .not (.t x0), none, [x0]⟩
abbrev J22 (d x0 x1 : Nat) : GO := ⟨some d, .len .slice (.t x0), (some (x1, false)), [x0, x1]⟩
abbrev J23 (d x0 x1 x2 : Nat) : GO := ⟨some d, .bin (.int .geq) (.t x0) (.t x1), (some (x2, false)), [x0, x1, x2]⟩
abbrev J24 (d x0 x1 : Nat) : GO := ⟨some d, .ia 3 (.t x0) (.t x1), none, [x0, x1]⟩
abbrev J25 (d x0 : Nat) : GO := ⟨some d, .bin (.int .eql) (.t x0) (.c (.int .i64 3)), none, [x0]⟩
abbrev J26 (d : Nat) : GO := ⟨some d, .new [(.int .i64 0), (.int .i64 0), .nilslice], none, []⟩
abbrev J27 (d x0 : Nat) : GO := ⟨some d, .bin (.int .eql) (.t x0) (.c (.int .i64 1)), none, [x0]⟩
abbrev J28 (d x0 : Nat) : GO := ⟨some d, .bin (.int .eql) (.t x0) (.c (.int .i64 2)), none, [x0]⟩
abbrev J29 (d x0 : Nat) : GO := ⟨some d, .bin (.int .lss) (.t x0) (.c (.int .i64 0)), none, [x0]⟩
abbrev J30 (d : Nat) : GO := ⟨some d, .new [(.int .i64 0), (.int .i64 0), .nilslice, (.bool false), (.int .i64 0), (.int .i64 0), (.int .i64 0)], none, []⟩
abbrev J31 (d x0 x1 : Nat) : GO := ⟨some d, .fa 6 (.t x0), (some (x1, false)), [x0, x1]⟩
abbrev J32 (d x0 x1 : Nat) : GO := ⟨some d, .fa 1 (.t x0), (some (x1, true)), [x0, x1]⟩
abbrev J33 (d x0 x1 : Nat) : GO := ⟨some d, .fa 2 (.t x0), (some (x1, true)), [x0, x1]⟩
abbrev J34 (d x0 x1 : Nat) : GO := ⟨some d, .len .slice (.t x0), (some (x1, true)), [x0, x1]⟩
abbrev J35 (d x0 x1 : Nat) : GO := ⟨some d, .bin (.int .eql) (.t x0) (.c (.int .i64 0)), (some (x1, true)), [x0, x1]⟩
abbrev J36 (d x0 x1 : Nat) : GO := ⟨some d, .fa 2 (.t x0), (some (x1, false)), [x0, x1]⟩
abbrev J37 (d x0 x1 : Nat) : GO := ⟨some d, .fa 0 (.t x0), (some (x1, true)), [x0, x1]⟩
abbrev J38 (d x0 x1 x2 : Nat) : GO := ⟨some d, .pick (.t x0) (.c (.bool true)) (.t x1), (some (x2, true)), [x0, x1, x2]⟩
def c4 : RC :=
 .seq (.reg [J16 3 1, J3 4])
 (.seq (.seq (.reg [J0 11 0, ⟨some 12, .call 15 [(.t 11), (.c (.int .i64 100))], none, [11]⟩, J0 13 12, ⟨some 14, .ldn 3 (.t 3), (some (13, false)), [3, 13]⟩, ⟨some 15, .call 16 [(.t 14), (.c (.int .i64 60))], (some (13, false)), [14, 13]⟩, J12 16 13 15])
 (.cond (.t 16)
 (.seq (.reg [⟨some 17, .call 8 [], none, []⟩, J0 4 17])
 (.ret))
 (.skip)))
 (.seq (.reg [J0 19 0, J6 20 3, ⟨some 21, .call 17 [(.t 19), (.t 20)], none, [19, 20]⟩, J0 18 21, ⟨some 22, .ext (.t 18) 0, none, [18]⟩, ⟨some 23, .ext (.t 18) 1, none, [18]⟩, ⟨some 24, .ext (.t 18) 2, none, [18]⟩, J0 5 22, J0 6 23, J0 7 24])
 (.seq (.reg [J0 26 0, J6 27 3, ⟨some 28, .call 18 [(.t 26), (.t 27)], none, [26, 27]⟩, J0 25 28, ⟨some 29, .ext (.t 25) 0, none, [25]⟩, ⟨some 30, .ext (.t 25) 1, none, [25]⟩, ⟨some 31, .ext (.t 25) 2, none, [25]⟩, J0 8 29, J0 9 30, J0 10 31])
 (.seq (.reg [J0 32 5, J0 33 8, ⟨some 34, .bin (.int .eql) (.t 32) (.t 33), none, [32, 33]⟩, J0 35 34, J14 36 6 35, J14 37 9 35, ⟨some 38, .bin (.int .eql) (.t 36) (.t 37), (some (35, true)), [36, 37, 35]⟩, J4 39 35 38, J0 40 39, J14 41 7 40, J14 42 10 40, ⟨some 43, .bin (.int .eql) (.t 41) (.t 42), (some (40, true)), [41, 42, 40]⟩, J4 44 40 43, J0 45 44, ⟨some 46, .call 8 [], (some (45, true)), [45]⟩, J4 47 45 46, J0 4 47])
 (.ret)))))
theorem c4_ok : resK Tryz.prog Tryz.f4.ntmps (Tryz.f4.body.getD .skip) = c4 := by kernel_rfl
theorem c4_res : resR Tryz.prog Tryz.f4.ntmps Tryz.f4.results.toList = [.t 4] := by kernel_rfl
theorem c4_ctr {args : List V} {h : Heap} {K : V → Heap → Prop} (hl : Nat.ble args.length 48 = true) (H : wpC Tryz.prog c4 (RF.ofL args) h fun e r h' => e.ends ∧ ∃ vs, evR r h' [.t 4] = some vs ∧ K (oneOf vs) h') : Ctr Tryz.prog 4 args h K :=
 ctr_of_wp follows namesOk Tryz.func4 (c := Tryz.f4.body.getD .skip) (by kernel_rfl) (by kernel_rfl) (by kernel_rfl) hl c4_ok c4_res H
def c15l1 : RC :=
 .seq (.seq (.reg [J0 6 5, J0 7 0, J9 8 7, J17 9 6 8])
 (.cond (.t 9)
 (.skip)
 (.exit 0)))
 (.seq (.block 1 (.seq (.reg [J0 12 0, J0 13 5, J20 14 12 13, J5 15 14, J13 16 15, J1 17 16, J9 18 17, ⟨some 19, .bin (.int .gtr) (.t 18) (.c (.int .i64 100)), none, [18]⟩])
 (.cond (.t 19)
 (.seq (.reg [⟨some 4, .mv (.c (.bool true)), none, []⟩])
 (.ret))
 (.skip))))
 (.reg [J0 10 5, J15 11 10, J0 5 11]))
def c15 : RC :=
 .seq (.reg [J3 4])
 (.seq (.seq (.reg [J2 5])
 (.block 0 (.loop c15l1)))
 (.seq (.reg [J0 20 0, J9 21 20, J0 22 1, ⟨some 23, .bin (.int .gtr) (.t 21) (.t 22), none, [21, 22]⟩, J0 4 23])
 (.ret)))
theorem c15_ok : resK Tryz.prog Tryz.f15.ntmps (Tryz.f15.body.getD .skip) = c15 := by kernel_rfl
theorem c15_res : resR Tryz.prog Tryz.f15.ntmps Tryz.f15.results.toList = [.t 4] := by kernel_rfl
theorem c15_ctr {args : List V} {h : Heap} {K : V → Heap → Prop} (hl : Nat.ble args.length 24 = true) (H : wpC Tryz.prog c15 (RF.ofL args) h fun e r h' => e.ends ∧ ∃ vs, evR r h' [.t 4] = some vs ∧ K (oneOf vs) h') : Ctr Tryz.prog 15 args h K :=
 ctr_of_wp follows namesOk Tryz.func15 (c := Tryz.f15.body.getD .skip) (by kernel_rfl) (by kernel_rfl) (by kernel_rfl) hl c15_ok c15_res H
def c16 : RC :=
 .seq (.reg [J16 2 0, J3 4])
 (.seq (.reg [J6 5 2, J0 6 1, ⟨some 7, .call 39 [(.t 5), (.t 6)], none, [5, 6]⟩, J0 8 1, ⟨some 9, .bin (.int .gtr) (.t 7) (.t 8), none, [7, 8]⟩, J0 4 9])
 (.ret))
theorem c16_ok : resK Tryz.prog Tryz.f16.ntmps (Tryz.f16.body.getD .skip) = c16 := by kernel_rfl
theorem c16_res : resR Tryz.prog Tryz.f16.ntmps Tryz.f16.results.toList = [.t 4] := by kernel_rfl
theorem c16_ctr {args : List V} {h : Heap} {K : V → Heap → Prop} (hl : Nat.ble args.length 10 = true) (H : wpC Tryz.prog c16 (RF.ofL args) h fun e r h' => e.ends ∧ ∃ vs, evR r h' [.t 4] = some vs ∧ K (oneOf vs) h') : Ctr Tryz.prog 16 args h K :=
 ctr_of_wp follows namesOk Tryz.func16 (c := Tryz.f16.body.getD .skip) (by kernel_rfl) (by kernel_rfl) (by kernel_rfl) hl c16_ok c16_res H
def c39l1 : RC :=
 .seq (.seq (.reg [J0 7 6, J5 8 2, J1 9 8, J9 10 9, J17 11 7 10, J0 12 11, J14 13 5 12, J14 14 1 12, ⟨some 15, .bin (.int .leq) (.t 13) (.t 14), (some (12, true)), [13, 14, 12]⟩, J4 16 12 15])
 (.cond (.t 16)
 (.skip)
 (.exit 0)))
 (.seq (.block 1 (.reg [J0 19 5, J5 20 2, J1 21 20, J0 22 6, J24 23 21 22, J6 24 23, J0 25 1, J0 26 5, ⟨some 27, .bin (.int .sub) (.t 25) (.t 26), none, [25, 26]⟩, ⟨some 28, .call 39 [(.t 24), (.t 27)], none, [24, 27]⟩, ⟨some 29, .bin (.int .add) (.t 19) (.t 28), none, [19, 28]⟩, J0 5 29]))
 (.reg [J0 17 6, J15 18 17, J0 6 18]))
def c39 : RC :=
 .seq (.reg [J16 2 0, J2 4])
 (.seq (.reg [⟨some 5, .mv (.c (.int .i64 1)), none, []⟩])
 (.seq (.seq (.reg [J2 6])
 (.block 0 (.loop c39l1)))
 (.seq (.reg [J0 30 5, J0 4 30])
 (.ret))))
theorem c39_ok : resK Tryz.prog Tryz.f39.ntmps (Tryz.f39.body.getD .skip) = c39 := by kernel_rfl
theorem c39_res : resR Tryz.prog Tryz.f39.ntmps Tryz.f39.results.toList = [.t 4] := by kernel_rfl
theorem c39_ctr {args : List V} {h : Heap} {K : V → Heap → Prop} (hl : Nat.ble args.length 31 = true) (H : wpC Tryz.prog c39 (RF.ofL args) h fun e r h' => e.ends ∧ ∃ vs, evR r h' [.t 4] = some vs ∧ K (oneOf vs) h') : Ctr Tryz.prog 39 args h K :=
 ctr_of_wp follows namesOk Tryz.func39 (c := Tryz.f39.body.getD .skip) (by kernel_rfl) (by kernel_rfl) (by kernel_rfl) hl c39_ok c39_res H
def c17l1 : RC :=
 .block 1 (.seq (.seq (.reg [J13 24 8, J1 25 24])
 (.block 2 (.seq (.reg [J28 27 25, J0 26 27])
 (.cond (.t 26)
 (.seq (.seq (.reg [J7 28 8, J1 29 28, J29 30 29])
 (.cond (.t 30)
 (.seq (.reg [J2 4, J2 5, J18 6])
 (.ret))
 (.skip)))
 (.seq (.reg [J7 31 8, J1 32 31, J0 33 7, J0 4 32, J0 5 33, J2 6])
 (.ret)))
 (.seq (.reg [J25 35 25, J0 34 35])
 (.cond (.t 34)
 (.exit 0)
 (.skip)))))))
 (.seq (.reg [J18 9])
 (.seq (.seq (.reg [J5 36 8, J7 37 36, J1 38 37])
 (.cond (.t 38)
 (.reg [⟨some 9, .mv (.c (.int .i64 1)), none, []⟩])
 (.skip)))
 (.seq (.reg [J6 40 3, J5 41 8, J13 42 41, J1 43 42, ⟨some 44, .call 42 [(.t 40), (.t 43)], none, [40, 43]⟩, J0 39 44, ⟨some 45, .ext (.t 39) 0, none, [39]⟩, ⟨some 46, .ext (.t 39) 1, none, [39]⟩, J26 10, ⟨none, .st 3 (.t 10) (.t 45), none, [10, 45]⟩, J0 11 46])
 (.seq (.seq (.reg [J0 47 11, J21 48 47, J0 49 48, ⟨some 50, .fa 0 (.t 10), (some (49, false)), [10, 49]⟩, J10 51 50 49, J11 52 9 49, ⟨some 53, .bin (.int .neq) (.t 51) (.t 52), (some (49, false)), [51, 52, 49]⟩, J12 54 49 53])
 (.cond (.t 54)
 (.seq (.reg [J2 4, J2 5, J18 6])
 (.ret))
 (.skip)))
 (.seq (.reg [J0 55 7, J15 56 55, J0 7 56])
 (.seq (.reg [⟨some 57, .fa 6 (.t 8), none, [8]⟩, J1 58 57, J0 12 58])
 (.seq (.seq (.reg [J7 59 10, J1 60 59, J5 61 8, J5 62 61, J1 63 62, ⟨some 64, .bin (.int .eql) (.t 60) (.t 63), none, [60, 63]⟩])
 (.cond (.t 64)
 (.reg [⟨some 65, .fa 5 (.t 8), none, [8]⟩, J1 66 65, J0 12 66])
 (.skip)))
 (.reg [J0 67 0, J0 68 12, J20 69 67 68, J19 70 69, ⟨none, .st 7 (.t 8) (.t 70), none, [8, 70]⟩])))))))))
def c17 : RC :=
 .seq (.reg [J16 3 1, J2 4, J2 5, J2 6])
 (.seq (.seq (.reg [J0 13 0, ⟨some 14, .call 40 [(.t 13)], none, [13]⟩, J21 15 14, J0 16 15, ⟨some 17, .ldn 3 (.t 3), (some (16, false)), [3, 16]⟩, ⟨some 18, .call 41 [(.t 17)], (some (16, false)), [17, 16]⟩, ⟨some 19, .un .not (.t 18), (some (16, false)), [18, 16]⟩, J12 20 16 19])
 (.cond (.t 20)
 (.seq (.reg [J2 4, J2 5, J18 6])
 (.ret))
 (.skip)))
 (.seq (.draw [J0 21 0, ⟨some 22, .ia 7 (.t 21) (.c (.int .i64 0)), none, [21]⟩, J19 23 22, J30 8, J2 7, ⟨none, .st 7 (.t 8) (.t 23), none, [8, 23]⟩] [(2, [5])])
 (.seq (.skip)
 (.seq (.block 0 (.loop c17l1))
 (.seq (.reg [J0 71 7, ⟨some 4, .mv (.c (.int .i64 (-1))), none, []⟩, J0 5 71, J2 6])
 (.ret))))))
theorem c17_ok : resK Tryz.prog Tryz.f17.ntmps (Tryz.f17.body.getD .skip) = c17 := by kernel_rfl
theorem c17_res : resR Tryz.prog Tryz.f17.ntmps Tryz.f17.results.toList = [.t 4, .t 5, .t 6] := by kernel_rfl
theorem c17_ctr {args : List V} {h : Heap} {K : V → Heap → Prop} (hl : Nat.ble args.length 72 = true) (H : wpC Tryz.prog c17 (RF.ofL args) h fun e r h' => e.ends ∧ ∃ vs, evR r h' [.t 4, .t 5, .t 6] = some vs ∧ K (oneOf vs) h') : Ctr Tryz.prog 17 args h K :=
 ctr_of_wp follows namesOk Tryz.func17 (c := Tryz.f17.body.getD .skip) (by kernel_rfl) (by kernel_rfl) (by kernel_rfl) hl c17_ok c17_res H
def c40l1 : RC :=
 .seq (.reg [J17 8 7 6])
 (.seq (.cond (.t 8)
 (.skip)
 (.exit 0))
 (.seq (.block 1 (.seq (.reg [J0 9 7, J20 10 5 7, J19 11 10, J30 4, J0 3 9, ⟨none, .st 7 (.t 4) (.t 11), none, [4, 11]⟩])
 (.seq (.reg [J13 12 4, J1 13 12])
 (.block 2 (.seq (.reg [J27 15 13, J0 14 15])
 (.cond (.t 14)
 (.seq (.reg [⟨some 16, .fa 5 (.t 4), none, [4]⟩, J1 17 16, J0 18 3, ⟨some 19, .bin (.int .leq) (.t 17) (.t 18), none, [17, 18]⟩, J0 20 19, J31 21 4 20, J10 22 21 20, J11 23 3 20, ⟨some 24, .bin (.int .leq) (.t 22) (.t 23), (some (20, false)), [22, 23, 20]⟩, J12 25 20 24, J0 26 25, ⟨some 27, .fa 5 (.t 4), (some (26, false)), [4, 26]⟩, J10 28 27 26, J11 29 0 26, J22 30 29 26, J23 31 28 30 26, J12 32 26 31, J0 33 32, J31 34 4 33, J10 35 34 33, J11 36 0 33, J22 37 36 33, J23 38 35 37 33, J12 39 33 38])
 (.cond (.t 39)
 (.seq (.reg [J3 2])
 (.ret))
 (.skip)))
 (.seq (.seq (.reg [J28 41 13, J0 40 41])
 (.cond (.t 40)
 (.skip)
 (.reg [J25 42 13, J0 40 42])))
 (.cond (.t 40)
 (.skip)
 (.seq (.reg [J3 2])
 (.ret))))))))))
 (.reg [J15 43 7, J0 7 43])))
def c40 : RC :=
 .seq (.reg [J3 2])
 (.seq (.seq (.reg [J0 5 0, J9 6 5, J2 7])
 (.block 0 (.loop c40l1)))
 (.seq (.reg [J0 44 0, J9 45 44, ⟨some 46, .bin (.int .gtr) (.t 45) (.c (.int .i64 0)), none, [45]⟩, J0 2 46])
 (.ret)))
theorem c40_ok : resK Tryz.prog Tryz.f40.ntmps (Tryz.f40.body.getD .skip) = c40 := by kernel_rfl
theorem c40_res : resR Tryz.prog Tryz.f40.ntmps Tryz.f40.results.toList = [.t 2] := by kernel_rfl
theorem c40_ctr {args : List V} {h : Heap} {K : V → Heap → Prop} (hl : Nat.ble args.length 47 = true) (H : wpC Tryz.prog c40 (RF.ofL args) h fun e r h' => e.ends ∧ ∃ vs, evR r h' [.t 2] = some vs ∧ K (oneOf vs) h') : Ctr Tryz.prog 40 args h K :=
 ctr_of_wp follows namesOk Tryz.func40 (c := Tryz.f40.body.getD .skip) (by kernel_rfl) (by kernel_rfl) (by kernel_rfl) hl c40_ok c40_res H
def c41l1 : RC :=
 .seq (.reg [J17 40 39 38])
 (.seq (.cond (.t 40)
 (.skip)
 (.exit 1))
 (.seq (.block 2 (.seq (.reg [J24 41 37 39, J6 42 41, J26 4, ⟨none, .st 3 (.t 4) (.t 42), none, [4, 42]⟩])
 (.seq (.reg [J6 43 4, ⟨some 44, .call 41 [(.t 43)], none, [43]⟩, J21 45 44])
 (.cond (.t 45)
 (.seq (.reg [J3 2])
 (.ret))
 (.skip)))))
 (.reg [J15 46 39, J0 39 46])))
def c41 : RC :=
 .seq (.reg [J16 1 0, J3 2])
 (.seq (.seq (.reg [J13 5 1, J1 6 5])
 (.block 0 (.seq (.reg [J27 8 6, J0 7 8])
 (.cond (.t 7)
 (.seq (.reg [J7 9 1, J1 10 9, ⟨some 11, .bin (.int .geq) (.t 10) (.c (.int .i64 (-1073741824))), none, [10]⟩, J0 12 11, J32 13 1 12, J8 14 13 12, ⟨some 15, .bin (.int .leq) (.t 14) (.c (.int .i64 1073741823)), (some (12, true)), [14, 12]⟩, J4 16 12 15, J0 17 16, J33 18 1 17, J8 19 18 17, J34 20 19 17, J35 21 20 17, J4 22 17 21, J0 2 22])
 (.ret))
 (.seq (.reg [J25 24 6, J0 23 24])
 (.cond (.t 23)
 (.seq (.reg [J7 25 1, J1 26 25, ⟨some 27, .bin (.int .eql) (.t 26) (.c (.int .i64 0)), none, [26]⟩, J0 28 27, J33 29 1 28, J8 30 29 28, J34 31 30 28, J35 32 31 28, J4 33 28 32, J0 2 33])
 (.ret))
 (.seq (.reg [J28 35 6, J0 34 35])
 (.cond (.t 34)
 (.seq (.seq (.reg [J5 36 1, J1 37 36, J9 38 37, J2 39])
 (.block 1 (.loop c41l1)))
 (.seq (.reg [J7 47 1, J1 48 47, ⟨some 49, .bin (.int .geq) (.t 48) (.c (.int .i64 0)), none, [48]⟩, J0 50 49, J32 51 1 50, J8 52 51 50, ⟨some 53, .bin (.int .leq) (.t 52) (.c (.int .i64 1048575)), (some (50, true)), [52, 50]⟩, J4 54 50 53, J0 2 54])
 (.ret)))
 (.skip)))))))))
 (.seq (.reg [J3 2])
 (.ret)))
theorem c41_ok : resK Tryz.prog Tryz.f41.ntmps (Tryz.f41.body.getD .skip) = c41 := by kernel_rfl
theorem c41_res : resR Tryz.prog Tryz.f41.ntmps Tryz.f41.results.toList = [.t 2] := by kernel_rfl
theorem c41_ctr {args : List V} {h : Heap} {K : V → Heap → Prop} (hl : Nat.ble args.length 55 = true) (H : wpC Tryz.prog c41 (RF.ofL args) h fun e r h' => e.ends ∧ ∃ vs, evR r h' [.t 2] = some vs ∧ K (oneOf vs) h') : Ctr Tryz.prog 41 args h K :=
 ctr_of_wp follows namesOk Tryz.func41 (c := Tryz.f41.body.getD .skip) (by kernel_rfl) (by kernel_rfl) (by kernel_rfl) hl c41_ok c41_res H
def c42l1 : RC :=
 .seq (.reg [J17 11 10 9])
 (.seq (.cond (.t 11)
 (.skip)
 (.exit 0))
 (.seq (.block 1 (.seq (.reg [⟨some 12, .ia 1 (.t 8) (.t 10), none, [8, 10]⟩, J1 13 12, J0 7 13])
 (.seq (.seq (.reg [J0 14 7, J29 15 14, J0 16 15, J11 17 7 16, J36 18 2 16, J10 19 18 16, J22 20 19 16, J23 21 17 20 16, J12 22 16 21])
 (.cond (.t 22)
 (.seq (.reg [⟨some 23, .build [(.int .i64 0), (.int .i64 0), .nilslice] [], none, []⟩, ⟨none, .st 3 (.t 4) (.t 23), none, [4, 23]⟩, J3 5])
 (.ret))
 (.skip)))
 (.reg [J5 24 2, J1 25 24, J0 26 7, J24 27 25 26, J6 28 27, ⟨none, .st 3 (.t 2) (.t 28), none, [2, 28]⟩]))))
 (.reg [J15 29 10, J0 10 29])))
def c42 : RC :=
 .seq (.reg [J16 2 0, J26 4, J3 5])
 (.seq (.seq (.reg [J0 8 1, J9 9 8, J2 10])
 (.block 0 (.loop c42l1)))
 (.seq (.reg [J6 30 2, ⟨none, .st 3 (.t 4) (.t 30), none, [4, 30]⟩, ⟨some 5, .mv (.c (.bool true)), none, []⟩])
 (.ret)))
theorem c42_ok : resK Tryz.prog Tryz.f42.ntmps (Tryz.f42.body.getD .skip) = c42 := by kernel_rfl
theorem c42_res : resR Tryz.prog Tryz.f42.ntmps Tryz.f42.results.toList = [.cn 4 3, .t 5] := by kernel_rfl
theorem c42_ctr {args : List V} {h : Heap} {K : V → Heap → Prop} (hl : Nat.ble args.length 31 = true) (H : wpC Tryz.prog c42 (RF.ofL args) h fun e r h' => e.ends ∧ ∃ vs, evR r h' [.cn 4 3, .t 5] = some vs ∧ K (oneOf vs) h') : Ctr Tryz.prog 42 args h K :=
 ctr_of_wp follows namesOk Tryz.func42 (c := Tryz.f42.body.getD .skip) (by kernel_rfl) (by kernel_rfl) (by kernel_rfl) hl c42_ok c42_res H
def c18l1 : RC :=
 .seq (.seq (.reg [J13 22 8, J1 23 22, J27 24 23])
 (.cond (.t 24)
 (.skip)
 (.exit 0)))
 (.block 1 (.seq (.reg [J6 26 3, J5 27 8, J13 28 27, J1 29 28, ⟨some 30, .call 45 [(.t 26), (.t 29)], none, [26, 29]⟩, J0 25 30, ⟨some 31, .ext (.t 25) 0, none, [25]⟩, ⟨some 32, .ext (.t 25) 1, none, [25]⟩, J26 9, ⟨none, .st 3 (.t 9) (.t 31), none, [9, 31]⟩, J0 10 32])
 (.seq (.seq (.reg [J0 33 10, J21 34 33, J0 35 34, J36 36 8 35, ⟨some 37, .fa 1 (.t 36), (some (35, false)), [36, 35]⟩, J10 38 37 35, J11 39 38 35, J37 40 9 39, J8 41 40 39, ⟨some 42, .bin (.int .neq) (.t 41) (.c (.int .i64 1)), (some (39, true)), [41, 39]⟩, ⟨some 43, .pick (.t 39) (.t 42) (.c (.bool false)), (some (35, false)), [39, 42, 35]⟩, J12 44 35 43, J0 45 44, J36 46 8 45, ⟨some 47, .fa 1 (.t 46), (some (45, false)), [46, 45]⟩, J10 48 47 45, ⟨some 49, .un .not (.t 48), (some (45, false)), [48, 45]⟩, J11 50 49 45, J37 51 9 50, J8 52 51 50, ⟨some 53, .bin (.int .neq) (.t 52) (.c (.int .i64 2)), (some (50, true)), [52, 50]⟩, ⟨some 54, .pick (.t 50) (.t 53) (.c (.bool false)), (some (45, false)), [50, 53, 45]⟩, J12 55 45 54])
 (.cond (.t 55)
 (.seq (.reg [J2 4, J2 5, J18 6])
 (.ret))
 (.skip)))
 (.seq (.reg [J0 56 7, J15 57 56, J0 7 57])
 (.seq (.reg [J7 58 9, J1 59 58, J5 60 8, J5 61 60, J1 62 61, ⟨some 63, .bin (.int .eql) (.t 59) (.t 62), none, [59, 62]⟩])
 (.cond (.t 63)
 (.reg [J0 64 0, ⟨some 65, .fa 5 (.t 8), none, [8]⟩, J1 66 65, J20 67 64 66, J19 68 67, ⟨none, .st 7 (.t 8) (.t 68), none, [8, 68]⟩])
 (.reg [J0 69 0, ⟨some 70, .fa 6 (.t 8), none, [8]⟩, J1 71 70, J20 72 69 71, J19 73 72, ⟨none, .st 7 (.t 8) (.t 73), none, [8, 73]⟩])))))))
def c18 : RC :=
 .seq (.reg [J16 3 1, J2 4, J2 5, J2 6])
 (.seq (.seq (.reg [J0 11 0, ⟨some 12, .call 43 [(.t 11)], none, [11]⟩, J21 13 12, J0 14 13, ⟨some 15, .ldn 3 (.t 3), (some (14, false)), [3, 14]⟩, ⟨some 16, .call 44 [(.t 15)], (some (14, false)), [15, 14]⟩, ⟨some 17, .un .not (.t 16), (some (14, false)), [16, 14]⟩, J12 18 14 17])
 (.cond (.t 18)
 (.seq (.reg [J2 4, J2 5, J18 6])
 (.ret))
 (.skip)))
 (.seq (.reg [J2 7])
 (.seq (.reg [J0 19 0, ⟨some 20, .ia 7 (.t 19) (.c (.int .i64 0)), none, [19]⟩, J19 21 20, J30 8, ⟨none, .st 7 (.t 8) (.t 21), none, [8, 21]⟩])
 (.seq (.block 0 (.loop c18l1))
 (.seq (.seq (.reg [J13 74 8, J1 75 74, J25 76 75])
 (.cond (.t 76)
 (.seq (.reg [J0 77 7, ⟨some 4, .mv (.c (.int .i64 (-1))), none, []⟩, J0 5 77, J2 6])
 (.ret))
 (.skip)))
 (.seq (.seq (.reg [J7 78 8, J1 79 78, J29 80 79])
 (.cond (.t 80)
 (.seq (.reg [J2 4, J2 5, J18 6])
 (.ret))
 (.skip)))
 (.seq (.reg [J7 81 8, J1 82 81, J0 83 7, J0 4 82, J0 5 83, J2 6])
 (.ret))))))))
theorem c18_ok : resK Tryz.prog Tryz.f18.ntmps (Tryz.f18.body.getD .skip) = c18 := by kernel_rfl
theorem c18_res : resR Tryz.prog Tryz.f18.ntmps Tryz.f18.results.toList = [.t 4, .t 5, .t 6] := by kernel_rfl
theorem c18_ctr {args : List V} {h : Heap} {K : V → Heap → Prop} (hl : Nat.ble args.length 84 = true) (H : wpC Tryz.prog c18 (RF.ofL args) h fun e r h' => e.ends ∧ ∃ vs, evR r h' [.t 4, .t 5, .t 6] = some vs ∧ K (oneOf vs) h') : Ctr Tryz.prog 18 args h K :=
 ctr_of_wp follows namesOk Tryz.func18 (c := Tryz.f18.body.getD .skip) (by kernel_rfl) (by kernel_rfl) (by kernel_rfl) hl c18_ok c18_res H
def c43l1 : RC :=
 .seq (.seq (.reg [J0 5 3, J0 6 0, J9 7 6, J17 8 5 7])
 (.cond (.t 8)
 (.skip)
 (.exit 0)))
 (.seq (.block 1 (.seq (.reg [J0 11 0, J0 12 3, J20 13 11 12, J19 14 13, J30 4, ⟨none, .st 7 (.t 4) (.t 14), none, [4, 14]⟩])
 (.seq (.seq (.reg [J13 15 4, J1 16 15, J27 17 16, J0 18 17, ⟨some 19, .fa 5 (.t 4), (some (18, true)), [4, 18]⟩, J8 20 19 18, J14 21 3 18, ⟨some 22, .bin (.int .leq) (.t 20) (.t 21), (some (18, true)), [20, 21, 18]⟩, J14 23 22 18, J31 24 4 23, J10 25 24 23, J11 26 3 23, ⟨some 27, .bin (.int .leq) (.t 25) (.t 26), (some (23, false)), [25, 26, 23]⟩, J38 28 23 27 18, J14 29 28 18, ⟨some 30, .fa 5 (.t 4), (some (29, false)), [4, 29]⟩, J10 31 30 29, J11 32 0 29, J22 33 32 29, J23 34 31 33 29, J38 35 29 34 18, J14 36 35 18, J31 37 4 36, J10 38 37 36, J11 39 0 36, J22 40 39 36, J23 41 38 40 36, J38 42 36 41 18, J4 43 18 42])
 (.cond (.t 43)
 (.seq (.reg [J3 2])
 (.ret))
 (.skip)))
 (.seq (.reg [J13 44 4, J1 45 44, ⟨some 46, .bin (.int .neq) (.t 45) (.c (.int .i64 1)), none, [45]⟩, J0 47 46, J37 48 4 47, J8 49 48 47, ⟨some 50, .bin (.int .neq) (.t 49) (.c (.int .i64 2)), (some (47, true)), [49, 47]⟩, J4 51 47 50, J0 52 51, J37 53 4 52, J8 54 53 52, ⟨some 55, .bin (.int .neq) (.t 54) (.c (.int .i64 3)), (some (52, true)), [54, 52]⟩, J4 56 52 55])
 (.cond (.t 56)
 (.seq (.reg [J3 2])
 (.ret))
 (.skip))))))
 (.reg [J0 9 3, J15 10 9, J0 3 10]))
def c43 : RC :=
 .seq (.reg [J3 2])
 (.seq (.seq (.reg [J2 3])
 (.block 0 (.loop c43l1)))
 (.seq (.reg [J0 57 0, J9 58 57, ⟨some 59, .bin (.int .gtr) (.t 58) (.c (.int .i64 0)), none, [58]⟩, J0 2 59])
 (.ret)))
theorem c43_ok : resK Tryz.prog Tryz.f43.ntmps (Tryz.f43.body.getD .skip) = c43 := by kernel_rfl
theorem c43_res : resR Tryz.prog Tryz.f43.ntmps Tryz.f43.results.toList = [.t 2] := by kernel_rfl
theorem c43_ctr {args : List V} {h : Heap} {K : V → Heap → Prop} (hl : Nat.ble args.length 60 = true) (H : wpC Tryz.prog c43 (RF.ofL args) h fun e r h' => e.ends ∧ ∃ vs, evR r h' [.t 2] = some vs ∧ K (oneOf vs) h') : Ctr Tryz.prog 43 args h K :=
 ctr_of_wp follows namesOk Tryz.func43 (c := Tryz.f43.body.getD .skip) (by kernel_rfl) (by kernel_rfl) (by kernel_rfl) hl c43_ok c43_res H
def c44l1 : RC :=
 .seq (.seq (.reg [J0 35 3, J5 36 1, J1 37 36, J9 38 37, J17 39 35 38])
 (.cond (.t 39)
 (.skip)
 (.exit 1)))
 (.seq (.block 2 (.seq (.reg [J5 42 1, J1 43 42, J0 44 3, J24 45 43 44, J6 46 45, ⟨some 47, .call 44 [(.t 46)], none, [46]⟩, J21 48 47])
 (.cond (.t 48)
 (.seq (.reg [J3 2])
 (.ret))
 (.skip))))
 (.reg [J0 40 3, J15 41 40, J0 3 41]))
def c44 : RC :=
 .seq (.reg [J16 1 0, J3 2])
 (.seq (.seq (.reg [J13 4 1, J1 5 4])
 (.block 0 (.seq (.reg [J27 7 5, J0 6 7])
 (.cond (.t 6)
 (.seq (.reg [J7 8 1, J1 9 8, ⟨some 10, .bin (.int .geq) (.t 9) (.c (.int .i64 (-1073741824))), none, [9]⟩, J0 11 10, J32 12 1 11, J8 13 12 11, ⟨some 14, .bin (.int .leq) (.t 13) (.c (.int .i64 1073741823)), (some (11, true)), [13, 11]⟩, J4 15 11 14, J0 16 15, J33 17 1 16, J8 18 17 16, J34 19 18 16, J35 20 19 16, J4 21 16 20, J0 2 21])
 (.ret))
 (.seq (.reg [J25 23 5, J0 22 23])
 (.cond (.t 22)
 (.seq (.reg [J7 24 1, J1 25 24, ⟨some 26, .bin (.int .eql) (.t 25) (.c (.int .i64 0)), none, [25]⟩, J0 27 26, J33 28 1 27, J8 29 28 27, J34 30 29 27, J35 31 30 27, J4 32 27 31, J0 2 32])
 (.ret))
 (.seq (.reg [J28 34 5, J0 33 34])
 (.cond (.t 33)
 (.seq (.seq (.reg [J2 3])
 (.block 1 (.loop c44l1)))
 (.seq (.reg [J7 49 1, J1 50 49, ⟨some 51, .bin (.int .geq) (.t 50) (.c (.int .i64 0)), none, [50]⟩, J0 52 51, J32 53 1 52, J8 54 53 52, ⟨some 55, .bin (.int .leq) (.t 54) (.c (.int .i64 1048575)), (some (52, true)), [54, 52]⟩, J4 56 52 55, J0 2 56])
 (.ret)))
 (.skip)))))))))
 (.seq (.reg [J3 2])
 (.ret)))
theorem c44_ok : resK Tryz.prog Tryz.f44.ntmps (Tryz.f44.body.getD .skip) = c44 := by kernel_rfl
theorem c44_res : resR Tryz.prog Tryz.f44.ntmps Tryz.f44.results.toList = [.t 2] := by kernel_rfl
theorem c44_ctr {args : List V} {h : Heap} {K : V → Heap → Prop} (hl : Nat.ble args.length 57 = true) (H : wpC Tryz.prog c44 (RF.ofL args) h fun e r h' => e.ends ∧ ∃ vs, evR r h' [.t 2] = some vs ∧ K (oneOf vs) h') : Ctr Tryz.prog 44 args h K :=
 ctr_of_wp follows namesOk Tryz.func44 (c := Tryz.f44.body.getD .skip) (by kernel_rfl) (by kernel_rfl) (by kernel_rfl) hl c44_ok c44_res H
def c45l1 : RC :=
 .seq (.seq (.reg [J0 7 6, J0 8 1, J9 9 8, J17 10 7 9])
 (.cond (.t 10)
 (.skip)
 (.exit 0)))
 (.seq (.block 1 (.seq (.seq (.draw [J0 13 1, J0 14 6, ⟨some 15, .ia 1 (.t 13) (.t 14), none, [13, 14]⟩, J1 16 15, J29 17 16, J0 18 17, J11 19 1 18, J11 20 6 18, ⟨some 21, .ia 1 (.t 19) (.t 20), (some (18, false)), [19, 20, 18]⟩, J10 22 21 18, J36 23 2 18, J10 24 23 18, J22 25 24 18, J23 26 22 25 18, J12 27 18 26] [])
 (.cond (.t 27)
 (.seq (.reg [⟨some 28, .build [(.int .i64 0), (.int .i64 0), .nilslice] [], none, []⟩, ⟨none, .st 3 (.t 4) (.t 28), none, [4, 28]⟩, J3 5])
 (.ret))
 (.skip)))
 (.draw [J5 29 2, J1 30 29, J0 31 1, J0 32 6, ⟨some 33, .ia 1 (.t 31) (.t 32), none, [31, 32]⟩, J1 34 33, J24 35 30 34, J6 36 35, ⟨none, .st 3 (.t 2) (.t 36), none, [2, 36]⟩] [(1, [8]), (5, [8]), (7, [8])])))
 (.reg [J0 11 6, J15 12 11, J0 6 12]))
def c45 : RC :=
 .seq (.reg [J16 2 0, J26 4, J3 5])
 (.seq (.seq (.reg [J2 6])
 (.block 0 (.loop c45l1)))
 (.seq (.reg [J6 37 2, ⟨none, .st 3 (.t 4) (.t 37), none, [4, 37]⟩, ⟨some 5, .mv (.c (.bool true)), none, []⟩])
 (.ret)))
theorem c45_ok : resK Tryz.prog Tryz.f45.ntmps (Tryz.f45.body.getD .skip) = c45 := by kernel_rfl
theorem c45_res : resR Tryz.prog Tryz.f45.ntmps Tryz.f45.results.toList = [.cn 4 3, .t 5] := by kernel_rfl
theorem c45_ctr {args : List V} {h : Heap} {K : V → Heap → Prop} (hl : Nat.ble args.length 38 = true) (H : wpC Tryz.prog c45 (RF.ofL args) h fun e r h' => e.ends ∧ ∃ vs, evR r h' [.cn 4 3, .t 5] = some vs ∧ K (oneOf vs) h') : Ctr Tryz.prog 45 args h K :=
 ctr_of_wp follows namesOk Tryz.func45 (c := Tryz.f45.body.getD .skip) (by kernel_rfl) (by kernel_rfl) (by kernel_rfl) hl c45_ok c45_res H
end Go.Proofs.YtigflhomnoledaaGreatDoor
namespace Go.Proofs.YtigflhomnoledaaGreatDoor
open Go Am
section
variable {F : Pa → Prop} {h : Heap}
theorem Tr.open {t : Tr} {vs : List V} (H : CsIn F h t.enc vs) : ∃ vl, vs = [.int .i64 t.k, .int .i64 t.n, vl] ∧ SlD F h 3 (t.l.map Tr.enc) vl := by
  rw [enc_eq] at H
  obtain ⟨_, rfl, H1⟩ := H.int
  obtain ⟨_, rfl, H2⟩ := H1.int
  obtain ⟨vl, _, rfl, L, H3⟩ := H2.sl
  obtain rfl := H3.no
  exact ⟨vl, rfl, L⟩
theorem Tr.kid {l : List Tr} {v : V} (H : SlD F h 3 (l.map Tr.enc) v) {k : IntKind} {i : Nat} (hi : i < l.length) :
    ∃ b off vl, iaV 3 v (.int k i) = some (.ptr b (off + i * 3)) ∧ CsIn F h l[i].enc [.int .i64 l[i].k, .int .i64 l[i].n, vl] ∧ SlD F h 3 (l[i].l.map Tr.enc) vl ∧ ∀ h', Ext h h' → ldnB 3 (h'.get b) (off + i * 3) = some (.agg [.int .i64 l[i].k, .int .i64 l[i].n, vl]) := by
  obtain ⟨b, off, u, e1, e2, e3, e4, _⟩ := H.at (k := k) (i := i) (by rw [List.length_map]; exact hi)
  rw [List.getElem_map] at e2
  obtain ⟨vl, rfl, L⟩ := Tr.open e2
  exact ⟨b, off, vl, e1, e2, L, e4⟩
theorem Ch.open {c : Ch} {vs : List V} (H : CsIn F h c.enc vs) : ∃ vp, vs = [.int .i64 c.kind, .int .i64 c.row, vp, .bool c.num, .int .i64 c.n, .int .i64 c.yes, .int .i64 c.no] ∧ SlD F h 1 (c.path.map encI) vp := by
  rw [Ch.enc] at H
  obtain ⟨_, rfl, H1⟩ := H.int
  obtain ⟨_, rfl, H2⟩ := H1.int
  obtain ⟨vp, _, rfl, L, H3⟩ := H2.sl
  obtain ⟨_, rfl, H4⟩ := H3.bool
  obtain ⟨_, rfl, H5⟩ := H4.int
  obtain ⟨_, rfl, H6⟩ := H5.int
  obtain ⟨_, rfl, H7⟩ := H6.int
  obtain rfl := H7.no
  exact ⟨vp, rfl, L⟩
theorem Ch.at {d : List Ch} {v : V} (H : SlD F h 7 (d.map Ch.enc) v) {k : IntKind} {i : Nat} (hi : i < d.length) :
    ∃ b off vp, iaV 7 v (.int k i) = some (.ptr b (off + i * 7)) ∧ SlD F h 1 (d[i].path.map encI) vp ∧ ∀ h', Ext h h' → ldnB 7 (h'.get b) (off + i * 7) = some (.agg [.int .i64 d[i].kind, .int .i64 d[i].row, vp, .bool d[i].num, .int .i64 d[i].n, .int .i64 d[i].yes, .int .i64 d[i].no]) := by
  obtain ⟨b, off, u, e1, e2, e3, e4, _⟩ := H.at (k := k) (i := i) (by rw [List.length_map]; exact hi)
  rw [List.getElem_map] at e2
  obtain ⟨vp, rfl, L⟩ := Ch.open e2
  exact ⟨b, off, vp, e1, L, e4⟩
end
def zeroT : Tr := .mk 0 0 []
theorem zeroT_in (F : Pa → Prop) (h : Heap) : CsIn F h zeroT.enc [.int .i64 0, .int .i64 0, .nilslice] := by
  rw [enc_eq]
  exact .i (.i ((SlD.nil F h 3).cons .nil))
set_option maxHeartbeats 1000000 in
theorem at_ctr (t : Tr) (p : List Int) (vs : List V) (pv : V) (h : Heap) (H : CsIn Any h t.enc vs) (Hp : SlD Any h 1 (p.map encI) pv) :
    Ctr Tryz.prog 42 [.agg vs, pv] h fun x h' => ∃ us, x = .tuple [.agg us, .bool (atT t p).isSome] ∧ CsIn Any h' ((atT t p).getD zeroT).enc us ∧ Ext h h' := by
  have H0 := H.olds
  obtain ⟨vl, rfl, L⟩ := Tr.open H0
  have P0 := Hp.olds
  have ol := L.one
  have hp := Hp.len
  rw [List.length_map] at hp
  have hpl := Hp.le
  rw [List.length_map] at hpl
  refine c42_ctr rfl (wpK_of ?_)
  unfold c42
  obtain ⟨h1, q1, e1, A1⟩ := box_new h [.int .i64 t.k, .int .i64 t.n, vl]
  obtain ⟨h2, q2, e2, B2⟩ := box_new h1 [.int .i64 0, .int .i64 0, .nilslice]
  have l1 := A1.lt
  have l2 := B2.lt
  simp +contextual only [ol.1, ol.2.1, hp, q1, q2, ↓wA, wD, simprocAttr]
  refine loopK_intro (fun r g => r 2 = .ptr (pa h.next) 0 ∧ r 4 = .ptr (pa h1.next) 0 ∧ r 8 = pv ∧ r 9 = .int .i64 p.length ∧ ∃ (i : Nat) (u : Tr) (wl : V), r 10 = .int .i64 i ∧ i ≤ p.length ∧ atT u (p.drop i) = atT t p ∧ Has g h.next [.int .i64 u.k, .int .i64 u.n, wl] ∧
    Has g h1.next [.int .i64 0, .int .i64 0, .nilslice] ∧ CsIn (Old h) g u.enc [.int .i64 u.k, .int .i64 u.n, wl] ∧ SlD (Old h) g 1 (p.map encI) pv ∧ Ext h g) (fun r g => p.length - (r 10).toN) ?_ ?_
  · exact ⟨by simp only [↓wA, wC, simprocAttr], by simp only [↓wA, wC, simprocAttr], by simp only [↓wA, wC, simprocAttr], by simp only [↓wA, wC, simprocAttr], 0, t, vl, by simp only [↓wA, wC, simprocAttr] <;> rfl, by omega, by rw [List.drop_zero], A1.ext e2, B2, H0.ext (e1.trans e2), P0.ext (e1.trans e2), e1.trans e2⟩
  rintro r g ⟨r2, r4, r8, r9, i, u, wl, r10, hi, hat, A, B, U, P, E⟩
  unfold c42l1
  obtain ⟨wl', hwl, W⟩ := Tr.open U
  simp only [List.cons.injEq, and_true, true_and] at hwl
  subst hwl
  have ow := W.one
  have hw := W.len
  rw [List.length_map] at hw
  by_cases hlt : i < p.length
  · have g0 : ((i : Int) < (p.length : Int)) = True := eq_true (by omega)
    obtain ⟨b, off, ia, ld⟩ := P.int_at (k := .i64) hlt
    have ld0 := ld g (Ext.refl g)
    rw [List.drop_eq_getElem_cons hlt, atT] at hat
    by_cases hn : p[i] < 0
    · have hn' := eq_true hn
      simp +contextual only [r2, r4, r8, r9, r10, g0, ia, ld0, hn', B.g, ↓wA, wD, simprocAttr]
      rw [if_pos (.inl hn)] at hat
      rw [← hat]
      exact ⟨_, rfl, zeroT_in _ _, E.set (by omega) _⟩
    · have hn' := eq_false hn
      by_cases hge : (u.l.length : Int) ≤ p[i]
      · have hge' := eq_true hge
        simp +contextual only [r2, r4, r8, r9, r10, g0, ia, ld0, hn', hge', hw, A.g, B.g, ↓wA, wD, simprocAttr]
        rw [if_pos (.inr hge)] at hat
        rw [← hat]
        exact ⟨_, rfl, zeroT_in _ _, E.set (by omega) _⟩
      · have hge' := eq_false hge
        rw [if_neg (by omega)] at hat
        obtain ⟨j, hj⟩ := Int.eq_ofNat_of_zero_le (show 0 ≤ p[i] by omega)
        have hjl : j < u.l.length := by omega
        rw [hj] at ld0 hn' hge' hat
        simp only [Int.toNat_natCast, List.getElem?_eq_getElem hjl] at hat
        obtain ⟨b', off', xl, ia', X, XL, ld'⟩ := Tr.kid W (k := .i64) hjl
        have ld1 := ld' g (Ext.refl g)
        have wi := w_inc hlt (by unfold top at hpl; omega)
        simp +contextual only [r2, r4, r8, r9, r10, g0, ia, ld0, hn', hge', hw, A.g, B.g, ia', ld1, wi, XL.one.1, XL.one.2.1, ↓wA, wD, simprocAttr]
        have no := not_old (h := h) (Nat.le_refl _)
        exact ⟨⟨i + 1, u.l[j], xl, rfl, hlt, hat, A.put _, B.set (by omega) _, X.set no _, P.set no _, E.set (Nat.le_refl _) _⟩, by omega⟩
  · have g0 : ((i : Int) < (p.length : Int)) = False := eq_false (by omega)
    simp +contextual only [r2, r4, r8, r9, r10, g0, A.g, B.g, ow.1, ow.2.1, ↓wA, wD, simprocAttr]
    rw [List.drop_eq_nil_of_le (by omega), atT] at hat
    rw [← hat]
    exact ⟨_, rfl, (U.set (not_old (by omega)) _).weak fun _ _ => trivial, E.set (by omega) _⟩
end Go.Proofs.YtigflhomnoledaaGreatDoor
namespace Go.Proofs.YtigflhomnoledaaGreatDoor
open Go Am
set_option maxHeartbeats 1000000 in
theorem rat_ctr (t : Tr) (p : List Int) (vs : List V) (pv : V) (h : Heap) (H : CsIn Any h t.enc vs) (Hp : SlD Any h 1 (p.map encI) pv) :
    Ctr Tryz.prog 45 [.agg vs, pv] h fun x h' => ∃ us, x = .tuple [.agg us, .bool (atT t p).isSome] ∧ CsIn Any h' ((atT t p).getD zeroT).enc us ∧ Ext h h' := by
  have H0 := H.olds
  obtain ⟨vl, rfl, L⟩ := Tr.open H0
  have P0 := Hp.olds
  have ol := L.one
  have hp := Hp.len
  rw [List.length_map] at hp
  have hpl := Hp.le
  rw [List.length_map] at hpl
  refine c45_ctr rfl (wpK_of ?_)
  unfold c45
  obtain ⟨h1, q1, e1, A1⟩ := box_new h [.int .i64 t.k, .int .i64 t.n, vl]
  obtain ⟨h2, q2, e2, B2⟩ := box_new h1 [.int .i64 0, .int .i64 0, .nilslice]
  have l1 := A1.lt
  have l2 := B2.lt
  simp +contextual only [ol.1, ol.2.1, hp, q1, q2, ↓wA, wD, simprocAttr]
  refine loopK_intro (fun r g => r 2 = .ptr (pa h.next) 0 ∧ r 4 = .ptr (pa h1.next) 0 ∧ r 1 = pv ∧ ∃ (i : Nat) (u : Tr) (wl : V), r 6 = .int .i64 i ∧ i ≤ p.length ∧ atT u (p.drop i) = atT t p ∧ Has g h.next [.int .i64 u.k, .int .i64 u.n, wl] ∧
    Has g h1.next [.int .i64 0, .int .i64 0, .nilslice] ∧ CsIn (Old h) g u.enc [.int .i64 u.k, .int .i64 u.n, wl] ∧ SlD (Old h) g 1 (p.map encI) pv ∧ Ext h g) (fun r g => p.length - (r 6).toN) ?_ ?_
  · exact ⟨by simp only [↓wA, wC, simprocAttr], by simp only [↓wA, wC, simprocAttr], by simp only [↓wA, wC, simprocAttr], 0, t, vl, by simp only [↓wA, wC, simprocAttr] <;> rfl, by omega, by rw [List.drop_zero], A1.ext e2, B2, H0.ext (e1.trans e2), P0.ext (e1.trans e2), e1.trans e2⟩
  rintro r g ⟨r2, r4, r1, i, u, wl, r6, hi, hat, A, B, U, P, E⟩
  unfold c45l1
  obtain ⟨wl', hwl, W⟩ := Tr.open U
  simp only [List.cons.injEq, and_true, true_and] at hwl
  subst hwl
  have ow := W.one
  have hw := W.len
  rw [List.length_map] at hw
  have hpg := P.len
  rw [List.length_map] at hpg
  by_cases hlt : i < p.length
  · have g0 : ((i : Int) < (p.length : Int)) = True := eq_true (by omega)
    obtain ⟨b, off, ia, ld⟩ := P.int_at (k := .i64) hlt
    have ld0 := ld g (Ext.refl g)
    rw [List.drop_eq_getElem_cons hlt, atT] at hat
    by_cases hn : p[i] < 0
    · have hn' := eq_true hn
      simp +contextual only [r2, r4, r1, r6, hpg, g0, ia, ld0, hn', B.g, ↓wA, wD, simprocAttr]
      rw [if_pos (.inl hn)] at hat
      rw [← hat]
      exact ⟨_, rfl, zeroT_in _ _, E.set (by omega) _⟩
    · have hn' := eq_false hn
      by_cases hge : (u.l.length : Int) ≤ p[i]
      · have hge' := eq_true hge
        simp +contextual only [r2, r4, r1, r6, hpg, g0, ia, ld0, hn', hge', hw, A.g, B.g, ↓wA, wD, simprocAttr]
        rw [if_pos (.inr hge)] at hat
        rw [← hat]
        exact ⟨_, rfl, zeroT_in _ _, E.set (by omega) _⟩
      · have hge' := eq_false hge
        rw [if_neg (by omega)] at hat
        obtain ⟨j, hj⟩ := Int.eq_ofNat_of_zero_le (show 0 ≤ p[i] by omega)
        have hjl : j < u.l.length := by omega
        rw [hj] at ld0 hn' hge' hat
        simp only [Int.toNat_natCast, List.getElem?_eq_getElem hjl] at hat
        obtain ⟨b', off', xl, ia', X, XL, ld'⟩ := Tr.kid W (k := .i64) hjl
        have ld1 := ld' g (Ext.refl g)
        have wi := w_inc hlt (by unfold top at hpl; omega)
        simp +contextual only [r2, r4, r1, r6, hpg, g0, ia, ld0, hn', hge', hw, A.g, B.g, ia', ld1, wi, XL.one.1, XL.one.2.1, ↓wA, wD, simprocAttr]
        have no := not_old (h := h) (Nat.le_refl _)
        exact ⟨⟨i + 1, u.l[j], xl, rfl, hlt, hat, A.put _, B.set (by omega) _, X.set no _, P.set no _, E.set (Nat.le_refl _) _⟩, by omega⟩
  · have g0 : ((i : Int) < (p.length : Int)) = False := eq_false (by omega)
    simp +contextual only [r2, r4, r1, r6, hpg, g0, A.g, B.g, ow.1, ow.2.1, ↓wA, wD, simprocAttr]
    rw [List.drop_eq_nil_of_le (by omega), atT] at hat
    rw [← hat]
    exact ⟨_, rfl, (U.set (not_old (by omega)) _).weak fun _ _ => trivial, E.set (by omega) _⟩
theorem may_ctr : ∀ (N : Nat) (t : Tr), t.size ≤ N → ∀ (vs : List V) (h : Heap), CsIn Any h t.enc vs → Ctr Tryz.prog 41 [.agg vs] h fun x h' => x = .bool (mayT t) ∧ Ext h h'
  | 0, t, hs, _, _, _ => by cases t; simp only [Tr.size] at hs; omega
  | N + 1, t, hs, vs, h, H => by
    obtain ⟨vl, rfl, L⟩ := Tr.open H
    have ol := L.one
    have hl := L.len
    have hle := L.le
    rw [List.length_map] at hl hle
    refine c41_ctr rfl (wpK_of ?_)
    unfold c41
    obtain ⟨h1, q1, e1, A1⟩ := box_new h [.int .i64 t.k, .int .i64 t.n, vl]
    have hM : mayT t = if t.k = 1 then decide (-1073741824 ≤ t.n) && decide (t.n ≤ 1073741823) && decide (t.l.length = 0) else if t.k = 3 then decide (t.n = 0) && decide (t.l.length = 0)
      else if t.k = 2 then maysT t.l && decide (0 ≤ t.n) && decide (t.n ≤ 1048575) else false := by cases t; rw [mayT]; rfl
    by_cases k1 : t.k = 1
    · have z1 := eq_true k1
      rw [hM, if_pos k1]
      by_cases a1 : -1073741824 ≤ t.n
      · by_cases a2 : t.n ≤ 1073741823
        · by_cases a3 : (t.l.length : Int) = 0
          · simp +contextual only [ol.1, ol.2.1, q1, A1.g, z1, eq_true a1, eq_true a2, eq_true a3, hl, ↓wA, wD, simprocAttr]
            first | exact e1 | exact ⟨by simp [show t.l.length = 0 by omega], e1⟩
          · simp +contextual only [ol.1, ol.2.1, q1, A1.g, z1, eq_true a1, eq_true a2, eq_false a3, hl, ↓wA, wD, simprocAttr]
            first | exact e1 | exact ⟨by simp [show ¬ t.l.length = 0 by omega], e1⟩
        · simp +contextual only [ol.1, ol.2.1, q1, A1.g, z1, eq_true a1, eq_false a2, ↓wA, wD, simprocAttr]
          first | exact e1 | exact ⟨by simp [a2], e1⟩
      · simp +contextual only [ol.1, ol.2.1, q1, A1.g, z1, eq_false a1, ↓wA, wD, simprocAttr]
        first | exact e1 | exact ⟨by simp [a1], e1⟩
    have z1 := eq_false k1
    rw [hM, if_neg k1]
    by_cases k3 : t.k = 3
    · have z3 := eq_true k3
      rw [if_pos k3]
      by_cases a1 : t.n = 0
      · by_cases a3 : (t.l.length : Int) = 0
        · simp +contextual only [ol.1, ol.2.1, q1, A1.g, z1, z3, eq_true a1, eq_true a3, hl, ↓wA, wD, simprocAttr]
          first | exact e1 | exact ⟨by simp [show t.l.length = 0 by omega], e1⟩
        · simp +contextual only [ol.1, ol.2.1, q1, A1.g, z1, z3, eq_true a1, eq_false a3, hl, ↓wA, wD, simprocAttr]
          first | exact e1 | exact ⟨by simp [show ¬ t.l.length = 0 by omega], e1⟩
      · simp +contextual only [ol.1, ol.2.1, q1, A1.g, z1, z3, eq_false a1, ↓wA, wD, simprocAttr]
        first | exact e1 | exact ⟨by simp [a1], e1⟩
    have z3 := eq_false k3
    rw [if_neg k3]
    by_cases k2 : t.k = 2
    rotate_left
    · have z2 := eq_false k2
      simp +contextual only [ol.1, ol.2.1, q1, A1.g, z1, z3, z2, ↓wA, wD, simprocAttr]
      first | exact e1 | exact ⟨by simp [k2], e1⟩
    have z2 := eq_true k2
    rw [if_pos k2]
    simp +contextual only [ol.1, ol.2.1, q1, A1.g, z1, z3, z2, hl, ↓wA, wD, simprocAttr]
    refine loopK_intro (fun r g => r 1 = .ptr (pa h.next) 0 ∧ r 37 = vl ∧ r 38 = .int .i64 t.l.length ∧ ∃ i : Nat, r 39 = .int .i64 i ∧ i ≤ t.l.length ∧ Ext h1 g ∧ maysT (t.l.drop i) = maysT t.l) (fun r g => t.l.length - (r 39).toN) ?_ ?_
    · exact ⟨by simp only [↓wA, wC, simprocAttr], by simp only [↓wA, wC, simprocAttr], by simp only [↓wA, wC, simprocAttr], 0, by simp only [↓wA, wC, simprocAttr] <;> rfl, by omega, Ext.refl h1, by rw [List.drop_zero]⟩
    rintro r g ⟨r1, r37, r38, i, rl, hi, E, hall⟩
    unfold c41l1
    have A := A1.ext E
    have LG := L.ext (e1.trans E)
    by_cases hlt : i < t.l.length
    · have g0 : ((i : Int) < (t.l.length : Int)) = True := eq_true (by omega)
      obtain ⟨b, off, wl, ia, X, XL, ld⟩ := Tr.kid LG (k := .i64) hlt
      have ld0 := ld g (Ext.refl g)
      have ow := XL.one
      have wi := w_inc hlt (by unfold top at hle; omega)
      rw [List.drop_eq_getElem_cons hlt, maysT] at hall
      have hsz := size_kid (t := t) (List.getElem_mem hlt)
      obtain ⟨g1, y1, x1, B⟩ := box_st g [.int .i64 0, .int .i64 0, .nilslice] [.int .i64 t.l[i].k, .int .i64 t.l[i].n, wl]
      simp +contextual only [r1, r37, r38, rl, g0, ia, ld0, y1, B.g, ow.1, ow.2.1, ↓wA, wD, simprocAttr]
      refine callK_intro (may_ctr N t.l[i] (by omega) _ g1 (X.ext x1)) ?_
      rintro x g2 ⟨rfl, e2⟩
      cases hm : mayT t.l[i] with
      | true =>
        rw [hm, Bool.true_and] at hall
        simp +contextual only [r1, r37, r38, rl, wi, ↓wA, wD, simprocAttr]
        exact ⟨⟨i + 1, rfl, hlt, E.trans (x1.trans e2), hall⟩, by omega⟩
      | false =>
        rw [hm, Bool.false_and] at hall
        simp +contextual only [r1, r37, r38, rl, wi, ↓wA, wD, simprocAttr]
        exact ⟨by rw [← hall]; rfl, e1.trans (E.trans (x1.trans e2))⟩
    · have g0 : ((i : Int) < (t.l.length : Int)) = False := eq_false (by omega)
      rw [List.drop_eq_nil_of_le (by omega)] at hall
      rw [← hall]
      by_cases a1 : 0 ≤ t.n
      · by_cases a2 : t.n ≤ 1048575
        · simp +contextual only [r1, r37, r38, rl, g0, A.g, hl, eq_true a1, eq_true a2, ↓wA, wD, simprocAttr]
          first | exact e1.trans E | exact ⟨by simp [a1, a2, maysT], e1.trans E⟩
        · simp +contextual only [r1, r37, r38, rl, g0, A.g, hl, eq_true a1, eq_false a2, ↓wA, wD, simprocAttr]
          first | exact e1.trans E | exact ⟨by simp [a2], e1.trans E⟩
      · simp +contextual only [r1, r37, r38, rl, g0, A.g, hl, eq_false a1, ↓wA, wD, simprocAttr]
        first | exact e1.trans E | exact ⟨by simp [a1], e1.trans E⟩
theorem rmay_ctr : ∀ (N : Nat) (t : Tr), t.size ≤ N → ∀ (vs : List V) (h : Heap), CsIn Any h t.enc vs → Ctr Tryz.prog 44 [.agg vs] h fun x h' => x = .bool (mayT t) ∧ Ext h h'
  | 0, t, hs, _, _, _ => by cases t; simp only [Tr.size] at hs; omega
  | N + 1, t, hs, vs, h, H => by
    obtain ⟨vl, rfl, L⟩ := Tr.open H
    have ol := L.one
    have hl := L.len
    have hle := L.le
    rw [List.length_map] at hl hle
    refine c44_ctr rfl (wpK_of ?_)
    unfold c44
    obtain ⟨h1, q1, e1, A1⟩ := box_new h [.int .i64 t.k, .int .i64 t.n, vl]
    have hM : mayT t = if t.k = 1 then decide (-1073741824 ≤ t.n) && decide (t.n ≤ 1073741823) && decide (t.l.length = 0) else if t.k = 3 then decide (t.n = 0) && decide (t.l.length = 0)
      else if t.k = 2 then maysT t.l && decide (0 ≤ t.n) && decide (t.n ≤ 1048575) else false := by cases t; rw [mayT]; rfl
    by_cases k1 : t.k = 1
    · have z1 := eq_true k1
      rw [hM, if_pos k1]
      by_cases a1 : -1073741824 ≤ t.n
      · by_cases a2 : t.n ≤ 1073741823
        · by_cases a3 : (t.l.length : Int) = 0
          · simp +contextual only [ol.1, ol.2.1, q1, A1.g, z1, eq_true a1, eq_true a2, eq_true a3, hl, ↓wA, wD, simprocAttr]
            first | exact e1 | exact ⟨by simp [show t.l.length = 0 by omega], e1⟩
          · simp +contextual only [ol.1, ol.2.1, q1, A1.g, z1, eq_true a1, eq_true a2, eq_false a3, hl, ↓wA, wD, simprocAttr]
            first | exact e1 | exact ⟨by simp [show ¬ t.l.length = 0 by omega], e1⟩
        · simp +contextual only [ol.1, ol.2.1, q1, A1.g, z1, eq_true a1, eq_false a2, ↓wA, wD, simprocAttr]
          first | exact e1 | exact ⟨by simp [a2], e1⟩
      · simp +contextual only [ol.1, ol.2.1, q1, A1.g, z1, eq_false a1, ↓wA, wD, simprocAttr]
        first | exact e1 | exact ⟨by simp [a1], e1⟩
    have z1 := eq_false k1
    rw [hM, if_neg k1]
    by_cases k3 : t.k = 3
    · have z3 := eq_true k3
      rw [if_pos k3]
      by_cases a1 : t.n = 0
      · by_cases a3 : (t.l.length : Int) = 0
        · simp +contextual only [ol.1, ol.2.1, q1, A1.g, z1, z3, eq_true a1, eq_true a3, hl, ↓wA, wD, simprocAttr]
          first | exact e1 | exact ⟨by simp [show t.l.length = 0 by omega], e1⟩
        · simp +contextual only [ol.1, ol.2.1, q1, A1.g, z1, z3, eq_true a1, eq_false a3, hl, ↓wA, wD, simprocAttr]
          first | exact e1 | exact ⟨by simp [show ¬ t.l.length = 0 by omega], e1⟩
      · simp +contextual only [ol.1, ol.2.1, q1, A1.g, z1, z3, eq_false a1, ↓wA, wD, simprocAttr]
        first | exact e1 | exact ⟨by simp [a1], e1⟩
    have z3 := eq_false k3
    rw [if_neg k3]
    by_cases k2 : t.k = 2
    rotate_left
    · have z2 := eq_false k2
      simp +contextual only [ol.1, ol.2.1, q1, A1.g, z1, z3, z2, ↓wA, wD, simprocAttr]
      first | exact e1 | exact ⟨by simp [k2], e1⟩
    have z2 := eq_true k2
    rw [if_pos k2]
    simp +contextual only [ol.1, ol.2.1, q1, A1.g, z1, z3, z2, hl, ↓wA, wD, simprocAttr]
    refine loopK_intro (fun r g => r 1 = .ptr (pa h.next) 0 ∧ ∃ i : Nat, r 3 = .int .i64 i ∧ i ≤ t.l.length ∧ Ext h1 g ∧ maysT (t.l.drop i) = maysT t.l) (fun r g => t.l.length - (r 3).toN) ?_ ?_
    · exact ⟨by simp only [↓wA, wC, simprocAttr], 0, by simp only [↓wA, wC, simprocAttr] <;> rfl, by omega, Ext.refl h1, by rw [List.drop_zero]⟩
    rintro r g ⟨r1, i, rl, hi, E, hall⟩
    unfold c44l1
    have A := A1.ext E
    have LG := L.ext (e1.trans E)
    by_cases hlt : i < t.l.length
    · have g0 : ((i : Int) < (t.l.length : Int)) = True := eq_true (by omega)
      obtain ⟨b, off, wl, ia, X, XL, ld⟩ := Tr.kid LG (k := .i64) hlt
      have ld0 := ld g (Ext.refl g)
      have ow := XL.one
      have wi := w_inc hlt (by unfold top at hle; omega)
      rw [List.drop_eq_getElem_cons hlt, maysT] at hall
      have hsz := size_kid (t := t) (List.getElem_mem hlt)
      simp +contextual only [r1, rl, g0, A.g, hl, ia, ld0, ↓wA, wD, simprocAttr]
      refine callK_intro (rmay_ctr N t.l[i] (by omega) _ g X) ?_
      rintro x g2 ⟨rfl, e2⟩
      cases hm : mayT t.l[i] with
      | true =>
        rw [hm, Bool.true_and] at hall
        simp +contextual only [r1, rl, wi, ↓wA, wD, simprocAttr]
        exact ⟨⟨i + 1, rfl, hlt, E.trans e2, hall⟩, by omega⟩
      | false =>
        rw [hm, Bool.false_and] at hall
        simp +contextual only [r1, rl, wi, ↓wA, wD, simprocAttr]
        exact ⟨by rw [← hall]; rfl, e1.trans (E.trans e2)⟩
    · have g0 : ((i : Int) < (t.l.length : Int)) = False := eq_false (by omega)
      rw [List.drop_eq_nil_of_le (by omega)] at hall
      rw [← hall]
      by_cases a1 : 0 ≤ t.n
      · by_cases a2 : t.n ≤ 1048575
        · simp +contextual only [r1, rl, g0, A.g, hl, eq_true a1, eq_true a2, ↓wA, wD, simprocAttr]
          first | exact e1.trans E | exact ⟨by simp [a1, a2, maysT], e1.trans E⟩
        · simp +contextual only [r1, rl, g0, A.g, hl, eq_true a1, eq_false a2, ↓wA, wD, simprocAttr]
          first | exact e1.trans E | exact ⟨by simp [a2], e1.trans E⟩
      · simp +contextual only [r1, rl, g0, A.g, hl, eq_false a1, ↓wA, wD, simprocAttr]
        first | exact e1.trans E | exact ⟨by simp [a1], e1.trans E⟩
theorem trees_ctr : ∀ (N : Nat) (t : Tr), t.size ≤ N → ∀ (m : Int) (vs : List V) (h : Heap), CsIn Any h t.enc vs → Ctr Tryz.prog 39 [.agg vs, .int .i64 m] h fun x h' => (∃ n : Int, x = .int .i64 n) ∧ Ext h h'
  | 0, t, hs, _, _, _, _ => by cases t; simp only [Tr.size] at hs; omega
  | N + 1, t, hs, m, vs, h, H => by
    obtain ⟨vl, rfl, L⟩ := Tr.open H
    have ol := L.one
    have hl := L.len
    have hle := L.le
    rw [List.length_map] at hl hle
    refine c39_ctr rfl (wpK_of ?_)
    unfold c39
    obtain ⟨h1, q1, e1, A1⟩ := box_new h [.int .i64 t.k, .int .i64 t.n, vl]
    simp +contextual only [ol.1, ol.2.1, q1, ↓wA, wD, simprocAttr]
    refine loopK_intro (fun r g => r 1 = .int .i64 m ∧ r 2 = .ptr (pa h.next) 0 ∧ ∃ (i : Nat) (n : Int), r 5 = .int .i64 n ∧ r 6 = .int .i64 i ∧ i ≤ t.l.length ∧ Ext h1 g) (fun r g => t.l.length - (r 6).toN) ?_ ?_
    · exact ⟨by simp only [↓wA, wC, simprocAttr], by simp only [↓wA, wC, simprocAttr], 0, 1, by simp only [↓wA, wC, simprocAttr], by simp only [↓wA, wC, simprocAttr] <;> rfl, by omega, Ext.refl h1⟩
    rintro r g ⟨r1, r2, i, n, r5, r6, hi, E⟩
    unfold c39l1
    have A := A1.ext E
    have LG := L.ext (e1.trans E)
    by_cases hlt : i < t.l.length
    · have g0 : ((i : Int) < (t.l.length : Int)) = True := eq_true (by omega)
      by_cases hn : n ≤ m
      · have hn' := eq_true hn
        obtain ⟨b, off, wl, ia, X, XL, ld⟩ := Tr.kid LG (k := .i64) hlt
        have ld0 := ld g (Ext.refl g)
        have wi := w_inc hlt (by unfold top at hle; omega)
        have hsz := size_kid (t := t) (List.getElem_mem hlt)
        simp +contextual only [r1, r2, r5, r6, g0, hn', A.g, hl, ia, ld0, ↓wA, wD, simprocAttr]
        refine callK_intro (trees_ctr N t.l[i] (by omega) _ _ g X) ?_
        rintro x g2 ⟨⟨k, rfl⟩, e2⟩
        simp +contextual only [r1, r2, r5, r6, wi, ↓wA, wD, simprocAttr]
        exact ⟨⟨i + 1, _, rfl, rfl, hlt, E.trans e2⟩, by omega⟩
      · have hn' := eq_false hn
        simp +contextual only [r1, r2, r5, r6, g0, hn', A.g, hl, ↓wA, wD, simprocAttr]
        exact ⟨⟨_, rfl⟩, e1.trans E⟩
    · have g0 : ((i : Int) < (t.l.length : Int)) = False := eq_false (by omega)
      simp +contextual only [r1, r2, r5, r6, g0, A.g, hl, ↓wA, wD, simprocAttr]
      exact ⟨⟨_, rfl⟩, e1.trans E⟩
theorem large_tree (t : Tr) (m : Int) (vs : List V) (h : Heap) (H : CsIn Any h t.enc vs) : Ctr Tryz.prog 16 [.agg vs, .int .i64 m] h fun x h' => (∃ b, x = .bool b) ∧ Ext h h' := by
  obtain ⟨vl, rfl, L⟩ := Tr.open H
  have ol := L.one
  refine c16_ctr rfl (wpK_of ?_)
  unfold c16
  obtain ⟨h1, q1, e1, A1⟩ := box_new h [.int .i64 t.k, .int .i64 t.n, vl]
  simp +contextual only [ol.1, ol.2.1, q1, A1.g, ↓wA, wD, simprocAttr]
  refine callK_intro (trees_ctr t.size t (Nat.le_refl _) m _ h1 (H.ext e1)) ?_
  rintro x g2 ⟨⟨k, rfl⟩, e2⟩
  simp +contextual only [↓wA, wD, simprocAttr]
  exact ⟨⟨_, rfl⟩, e1.trans e2⟩
theorem large_ch (d : List Ch) (m : Int) (v : V) (h : Heap) (H : SlD Any h 7 (d.map Ch.enc) v) : Ctr Tryz.prog 15 [v, .int .i64 m] h fun x h' => (∃ b, x = .bool b) ∧ h' = h := by
  have hl := H.len
  have hle := H.le
  rw [List.length_map] at hl hle
  refine c15_ctr rfl (wpK_of ?_)
  unfold c15
  simp +contextual only [↓wA, wD, simprocAttr]
  refine loopK_intro (fun r g => g = h ∧ r 0 = v ∧ r 1 = .int .i64 m ∧ ∃ i : Nat, r 5 = .int .i64 i ∧ i ≤ d.length) (fun r g => d.length - (r 5).toN) ?_ ?_
  · exact ⟨rfl, by simp only [↓wA, wC, simprocAttr], by simp only [↓wA, wC, simprocAttr], 0, by simp only [↓wA, wC, simprocAttr] <;> rfl, by omega⟩
  rintro r g ⟨hg, r0, r1, i, r5, hi⟩
  subst hg
  unfold c15l1
  by_cases hlt : i < d.length
  · have g0 : ((i : Int) < (d.length : Int)) = True := eq_true (by omega)
    obtain ⟨b, off, u, e1, e2, e3, e4, e5⟩ := H.at (k := .i64) (i := i) (by rw [List.length_map]; exact hlt)
    rw [List.getElem_map] at e2
    obtain ⟨vp, rfl, PL⟩ := Ch.open e2
    have ld := e5 g (Ext.refl g) 2 (by omega)
    simp only [List.getElem?_cons_succ, List.getElem?_cons_zero] at ld
    have pl := PL.len
    rw [List.length_map] at pl
    have wi := w_inc hlt (by unfold top at hle; omega)
    by_cases hb : 100 < ((d[i].path.length : Nat) : Int)
    · simp +contextual only [r0, r1, r5, hl, g0, e1, ld, pl, eq_true hb, ↓wA, wD, simprocAttr]
      exact ⟨_, rfl⟩
    · simp +contextual only [r0, r1, r5, hl, g0, e1, ld, pl, eq_false hb, wi, ↓wA, wD, simprocAttr]
      exact ⟨⟨i + 1, rfl, hlt⟩, by omega⟩
  · have g0 : ((i : Int) < (d.length : Int)) = False := eq_false (by omega)
    simp +contextual only [r0, r1, r5, hl, g0, ↓wA, wD, simprocAttr]
    exact ⟨_, rfl⟩
end Go.Proofs.YtigflhomnoledaaGreatDoor
namespace Go.Proofs.YtigflhomnoledaaGreatDoor
open Go Am
theorem ch_bad {len i : Nat} {c : Ch} (k : c.kind = 1) (h : c.yes ≤ i ∨ c.no ≤ i ∨ (len : Int) ≤ c.yes ∨ (len : Int) ≤ c.no) : chB len i c = false := by
  unfold chB
  rw [if_pos k]
  rcases h with h | h | h | h <;> simp [h]
theorem ch_good {len i : Nat} {c : Ch} (k : c.kind = 1) (h1 : ¬ c.yes ≤ i) (h2 : ¬ c.no ≤ i) (h3 : ¬ (len : Int) ≤ c.yes) (h4 : ¬ (len : Int) ≤ c.no) : chB len i c = true := by
  unfold chB
  rw [if_pos k]
  simp [h1, h2, h3, h4]
theorem ch_end {len i : Nat} {c : Ch} (k : c.kind = 2 ∨ c.kind = 3) : chB len i c = true := by
  unfold chB
  rw [if_neg (by omega)]
  rcases k with k | k <;> simp [k]
theorem ch_no {len i : Nat} {c : Ch} (k1 : ¬ c.kind = 1) (k2 : ¬ c.kind = 2) (k3 : ¬ c.kind = 3) : chB len i c = false := by
  unfold chB
  rw [if_neg k1]
  simp [k2, k3]
set_option maxHeartbeats 1000000 in
theorem dec_ctr (d : List Ch) (v : V) (h : Heap) (H : SlD Any h 7 (d.map Ch.enc) v) : Ctr Tryz.prog 40 [v] h fun x h' => x = .bool (decB d) ∧ Ext h h' := by
  have hl := H.len
  have hle := H.le
  rw [List.length_map] at hl hle
  refine c40_ctr rfl (wpK_of ?_)
  unfold c40
  simp +contextual only [hl, ↓wA, wD, simprocAttr]
  refine loopK_intro (fun r g => r 0 = v ∧ r 5 = v ∧ r 6 = .int .i64 d.length ∧ ∃ i : Nat, r 7 = .int .i64 i ∧ i ≤ d.length ∧ Ext h g ∧ chsB d.length i (d.drop i) = chsB d.length 0 d) (fun r g => d.length - (r 7).toN) ?_ ?_
  · exact ⟨by simp only [↓wA, wC, simprocAttr], by simp only [↓wA, wC, simprocAttr], by simp only [↓wA, wC, simprocAttr], 0, by simp only [↓wA, wC, simprocAttr] <;> rfl, by omega, Ext.refl h, by rw [List.drop_zero]⟩
  rintro r g ⟨r0, r5, r6, i, rc, hi, E, hall⟩
  unfold c40l1
  have HG := H.ext E
  by_cases hlt : i < d.length
  · have g0 : ((i : Int) < (d.length : Int)) = True := eq_true (by omega)
    obtain ⟨b, off, vp, ia, PL, ld⟩ := Ch.at HG (k := .i64) hlt
    have ld0 := ld g (Ext.refl g)
    have po := PL.one
    have wi := w_inc hlt (by unfold top at hle; omega)
    obtain ⟨g1, y1, x1, B⟩ := box_st g [.int .i64 0, .int .i64 0, .nilslice, .bool false, .int .i64 0, .int .i64 0, .int .i64 0] [.int .i64 d[i].kind, .int .i64 d[i].row, vp, .bool d[i].num, .int .i64 d[i].n, .int .i64 d[i].yes, .int .i64 d[i].no]
    have X := E.trans x1
    rw [List.drop_eq_getElem_cons hlt, chsB] at hall
    have bad : chB d.length i d[i] = false → decB d = false := fun q => by
      rw [q, Bool.false_and] at hall
      rw [decB, ← hall, Bool.false_and]
    have good : chB d.length i d[i] = true → chsB d.length (i + 1) (d.drop (i + 1)) = chsB d.length 0 d := fun q => by
      rw [q, Bool.true_and] at hall
      exact hall
    by_cases k1 : d[i].kind = 1
    · have z1 := eq_true k1
      by_cases a1 : d[i].yes ≤ i
      · have hb := bad (ch_bad k1 (.inl a1))
        rw [hb]
        simp +contextual only [r0, r5, r6, rc, g0, ia, ld0, y1, B.g, hl, po.1, po.2.1, wi, z1, eq_true a1, ↓wA, wD, simprocAttr]
        exact X
      by_cases a2 : d[i].no ≤ i
      · have hb := bad (ch_bad k1 (.inr (.inl a2)))
        rw [hb]
        simp +contextual only [r0, r5, r6, rc, g0, ia, ld0, y1, B.g, hl, po.1, po.2.1, wi, z1, eq_false a1, eq_true a2, ↓wA, wD, simprocAttr]
        exact X
      by_cases a3 : (d.length : Int) ≤ d[i].yes
      · have hb := bad (ch_bad k1 (.inr (.inr (.inl a3))))
        rw [hb]
        simp +contextual only [r0, r5, r6, rc, g0, ia, ld0, y1, B.g, hl, po.1, po.2.1, wi, z1, eq_false a1, eq_false a2, eq_true a3, ↓wA, wD, simprocAttr]
        exact X
      by_cases a4 : (d.length : Int) ≤ d[i].no
      · have hb := bad (ch_bad k1 (.inr (.inr (.inr a4))))
        rw [hb]
        simp +contextual only [r0, r5, r6, rc, g0, ia, ld0, y1, B.g, hl, po.1, po.2.1, wi, z1, eq_false a1, eq_false a2, eq_false a3, eq_true a4, ↓wA, wD, simprocAttr]
        exact X
      · have hg := good (ch_good k1 a1 a2 a3 a4)
        simp +contextual only [r0, r5, r6, rc, g0, ia, ld0, y1, B.g, hl, po.1, po.2.1, wi, z1, eq_false a1, eq_false a2, eq_false a3, eq_false a4, ↓wA, wD, simprocAttr]
        exact ⟨⟨i + 1, rfl, hlt, X, hg⟩, by omega⟩
    have z1 := eq_false k1
    by_cases k2 : d[i].kind = 2
    · have hg := good (ch_end (.inl k2))
      simp +contextual only [r0, r5, r6, rc, g0, ia, ld0, y1, B.g, hl, po.1, po.2.1, wi, z1, eq_true k2, ↓wA, wD, simprocAttr]
      exact ⟨⟨i + 1, rfl, hlt, X, hg⟩, by omega⟩
    by_cases k3 : d[i].kind = 3
    · have hg := good (ch_end (.inr k3))
      simp +contextual only [r0, r5, r6, rc, g0, ia, ld0, y1, B.g, hl, po.1, po.2.1, wi, z1, eq_false k2, eq_true k3, ↓wA, wD, simprocAttr]
      exact ⟨⟨i + 1, rfl, hlt, X, hg⟩, by omega⟩
    · have hb := bad (ch_no k1 k2 k3)
      rw [hb]
      simp +contextual only [r0, r5, r6, rc, g0, ia, ld0, y1, B.g, hl, po.1, po.2.1, wi, z1, eq_false k2, eq_false k3, ↓wA, wD, simprocAttr]
      exact X
  · have g0 : ((i : Int) < (d.length : Int)) = False := eq_false (by omega)
    rw [List.drop_eq_nil_of_le (by omega), chsB] at hall
    have hd : decB d = decide (0 < d.length) := by rw [decB, ← hall, Bool.true_and]
    rw [hd]
    by_cases hz : (0 : Int) < (d.length : Int)
    · simp +contextual only [r0, r5, r6, rc, g0, hl, eq_true hz, ↓wA, wD, simprocAttr]
      first | exact E | exact ⟨by simp [show 0 < d.length by omega], E⟩
    · simp +contextual only [r0, r5, r6, rc, g0, hl, eq_false hz, ↓wA, wD, simprocAttr]
      first | exact E | exact ⟨by simp [show ¬ 0 < d.length by omega], E⟩
set_option maxHeartbeats 1000000 in
theorem rdec_ctr (d : List Ch) (v : V) (h : Heap) (H : SlD Any h 7 (d.map Ch.enc) v) : Ctr Tryz.prog 43 [v] h fun x h' => x = .bool (decB d) ∧ Ext h h' := by
  have hl := H.len
  have hle := H.le
  rw [List.length_map] at hl hle
  refine c43_ctr rfl (wpK_of ?_)
  unfold c43
  simp +contextual only [hl, ↓wA, wD, simprocAttr]
  refine loopK_intro (fun r g => r 0 = v ∧ ∃ i : Nat, r 3 = .int .i64 i ∧ i ≤ d.length ∧ Ext h g ∧ chsB d.length i (d.drop i) = chsB d.length 0 d) (fun r g => d.length - (r 3).toN) ?_ ?_
  · exact ⟨by simp only [↓wA, wC, simprocAttr], 0, by simp only [↓wA, wC, simprocAttr] <;> rfl, by omega, Ext.refl h, by rw [List.drop_zero]⟩
  rintro r g ⟨r0, i, rc, hi, E, hall⟩
  unfold c43l1
  have HG := H.ext E
  by_cases hlt : i < d.length
  · have g0 : ((i : Int) < (d.length : Int)) = True := eq_true (by omega)
    obtain ⟨b, off, vp, ia, PL, ld⟩ := Ch.at HG (k := .i64) hlt
    have ld0 := ld g (Ext.refl g)
    have po := PL.one
    have wi := w_inc hlt (by unfold top at hle; omega)
    obtain ⟨g1, y1, x1, B⟩ := box_st g [.int .i64 0, .int .i64 0, .nilslice, .bool false, .int .i64 0, .int .i64 0, .int .i64 0] [.int .i64 d[i].kind, .int .i64 d[i].row, vp, .bool d[i].num, .int .i64 d[i].n, .int .i64 d[i].yes, .int .i64 d[i].no]
    have X := E.trans x1
    rw [List.drop_eq_getElem_cons hlt, chsB] at hall
    have bad : chB d.length i d[i] = false → decB d = false := fun q => by
      rw [q, Bool.false_and] at hall
      rw [decB, ← hall, Bool.false_and]
    have good : chB d.length i d[i] = true → chsB d.length (i + 1) (d.drop (i + 1)) = chsB d.length 0 d := fun q => by
      rw [q, Bool.true_and] at hall
      exact hall
    by_cases k1 : d[i].kind = 1
    · have z1 := eq_true k1
      by_cases a1 : d[i].yes ≤ i
      · have hb := bad (ch_bad k1 (.inl a1))
        rw [hb]
        simp +contextual only [r0, rc, g0, ia, ld0, y1, B.g, hl, po.1, po.2.1, wi, z1, eq_true a1, ↓wA, wD, simprocAttr]
        exact X
      by_cases a2 : d[i].no ≤ i
      · have hb := bad (ch_bad k1 (.inr (.inl a2)))
        rw [hb]
        simp +contextual only [r0, rc, g0, ia, ld0, y1, B.g, hl, po.1, po.2.1, wi, z1, eq_false a1, eq_true a2, ↓wA, wD, simprocAttr]
        exact X
      by_cases a3 : (d.length : Int) ≤ d[i].yes
      · have hb := bad (ch_bad k1 (.inr (.inr (.inl a3))))
        rw [hb]
        simp +contextual only [r0, rc, g0, ia, ld0, y1, B.g, hl, po.1, po.2.1, wi, z1, eq_false a1, eq_false a2, eq_true a3, ↓wA, wD, simprocAttr]
        exact X
      by_cases a4 : (d.length : Int) ≤ d[i].no
      · have hb := bad (ch_bad k1 (.inr (.inr (.inr a4))))
        rw [hb]
        simp +contextual only [r0, rc, g0, ia, ld0, y1, B.g, hl, po.1, po.2.1, wi, z1, eq_false a1, eq_false a2, eq_false a3, eq_true a4, ↓wA, wD, simprocAttr]
        exact X
      · have hg := good (ch_good k1 a1 a2 a3 a4)
        simp +contextual only [r0, rc, g0, ia, ld0, y1, B.g, hl, po.1, po.2.1, wi, z1, eq_false a1, eq_false a2, eq_false a3, eq_false a4, ↓wA, wD, simprocAttr]
        exact ⟨⟨i + 1, rfl, hlt, X, hg⟩, by omega⟩
    have z1 := eq_false k1
    by_cases k2 : d[i].kind = 2
    · have hg := good (ch_end (.inl k2))
      simp +contextual only [r0, rc, g0, ia, ld0, y1, B.g, hl, po.1, po.2.1, wi, z1, eq_true k2, ↓wA, wD, simprocAttr]
      exact ⟨⟨i + 1, rfl, hlt, X, hg⟩, by omega⟩
    by_cases k3 : d[i].kind = 3
    · have hg := good (ch_end (.inr k3))
      simp +contextual only [r0, rc, g0, ia, ld0, y1, B.g, hl, po.1, po.2.1, wi, z1, eq_false k2, eq_true k3, ↓wA, wD, simprocAttr]
      exact ⟨⟨i + 1, rfl, hlt, X, hg⟩, by omega⟩
    · have hb := bad (ch_no k1 k2 k3)
      rw [hb]
      simp +contextual only [r0, rc, g0, ia, ld0, y1, B.g, hl, po.1, po.2.1, wi, z1, eq_false k2, eq_false k3, ↓wA, wD, simprocAttr]
      exact X
  · have g0 : ((i : Int) < (d.length : Int)) = False := eq_false (by omega)
    rw [List.drop_eq_nil_of_le (by omega), chsB] at hall
    have hd : decB d = decide (0 < d.length) := by rw [decB, ← hall, Bool.true_and]
    rw [hd]
    by_cases hz : (0 : Int) < (d.length : Int)
    · simp +contextual only [r0, rc, g0, hl, eq_true hz, ↓wA, wD, simprocAttr]
      first | exact E | exact ⟨by simp [show 0 < d.length by omega], E⟩
    · simp +contextual only [r0, rc, g0, hl, eq_false hz, ↓wA, wD, simprocAttr]
      first | exact E | exact ⟨by simp [show ¬ 0 < d.length by omega], E⟩
def tup3 (p : Int × Int × Int) : V := .tuple [.int .i64 p.1, .int .i64 p.2.1, .int .i64 p.2.2]
theorem chsB_at {len : Nat} : ∀ {l : List Ch} {k : Nat}, chsB len k l = true → ∀ (i : Nat) (h : i < l.length), chB len (k + i) l[i] = true
  | c :: l, k, q, 0, _ => by
    simp only [chsB, Bool.and_eq_true] at q
    exact q.1
  | c :: l, k, q, i + 1, h => by
    simp only [chsB, Bool.and_eq_true] at q
    have := chsB_at q.2 i (by simpa using h)
    rw [show k + (i + 1) = k + 1 + i by omega]
    exact this
theorem dec_at {d : List Ch} (h : decB d = true) (i : Nat) (hi : i < d.length) : (d[i].kind = 1 ∧ (i : Int) < d[i].yes ∧ d[i].yes < d.length ∧ (i : Int) < d[i].no ∧ d[i].no < d.length) ∨ d[i].kind = 2 ∨ d[i].kind = 3 := by
  unfold decB at h
  simp only [Bool.and_eq_true] at h
  have := chsB_at h.1 i hi
  rw [Nat.zero_add] at this
  unfold chB at this
  split at this
  · rename_i k
    left
    simp only [Bool.not_eq_true', Bool.or_eq_false_iff, decide_eq_false_iff_not] at this
    omega
  · right
    simpa using this
theorem dec_pos {d : List Ch} (h : decB d = true) : 0 < d.length := by
  unfold decB at h
  simp only [Bool.and_eq_true, decide_eq_true_eq] at h
  exact h.2
set_option maxHeartbeats 4000000 in
theorem follow_ctr (d : List Ch) (t : Tr) (v : V) (vs : List V) (h : Heap) (Hd : SlD Any h 7 (d.map Ch.enc) v) (H : CsIn Any h t.enc vs) : Ctr Tryz.prog 17 [v, .agg vs] h fun x h' => x = tup3 (followM d t) ∧ Ext h h' := by
  obtain ⟨vl, rfl, L⟩ := Tr.open H
  have ol := L.one
  have hl := Hd.len
  have hle := Hd.le
  rw [List.length_map] at hl hle
  refine c17_ctr rfl (wpK_of ?_)
  unfold c17
  obtain ⟨h1, q1, e1, A1⟩ := box_new h [.int .i64 t.k, .int .i64 t.n, vl]
  simp +contextual only [ol.1, ol.2.1, q1, ↓wA, wD, simprocAttr]
  refine callK_intro (dec_ctr d v h1 (Hd.ext e1)) ?_
  rintro x h2 ⟨rfl, e2⟩
  have A2 := A1.ext e2
  cases hdB : decB d with
  | false =>
    simp +contextual only [↓wA, wD, simprocAttr]
    exact ⟨by rw [followM, hdB, Bool.false_and, if_neg (by simp)]; rfl, e1.trans e2⟩
  | true =>
  simp +contextual only [A2.g, ↓wA, wD, simprocAttr]
  refine callK_intro (may_ctr t.size t (Nat.le_refl _) _ h2 (H.ext (e1.trans e2))) ?_
  rintro x h3 ⟨rfl, e3⟩
  have A3 := A2.ext e3
  have E3 := (e1.trans e2).trans e3
  cases hmB : mayT t with
  | false =>
    simp +contextual only [↓wA, wD, simprocAttr]
    exact ⟨by rw [followM, hdB, hmB, Bool.true_and, if_neg (by simp)]; rfl, E3⟩
  | true =>
  have hfm : followM d t = goM d t d.length 0 0 := by rw [followM, hdB, hmB, Bool.true_and, if_pos rfl]
  rw [hfm]
  have hpos := dec_pos hdB
  obtain ⟨b, off, vp, ia, PL, ld⟩ := Ch.at (Hd.ext E3) (k := .i64) hpos
  simp only [Nat.zero_mul, Nat.add_zero] at ia ld
  have ld0 := ld h3 (Ext.refl h3)
  obtain ⟨h4, q4, e4, B4⟩ := box_st h3 [.int .i64 0, .int .i64 0, .nilslice, .bool false, .int .i64 0, .int .i64 0, .int .i64 0] [.int .i64 d[0].kind, .int .i64 d[0].row, vp, .bool d[0].num, .int .i64 d[0].n, .int .i64 d[0].yes, .int .i64 d[0].no]
  rw [show ((0 : Nat) : Int) = 0 from rfl] at ia
  have ldn := ld _ ((Ext.refl h3).new (.ofL [.int .i64 0, .int .i64 0, .nilslice, .bool false, .int .i64 0, .int .i64 0, .int .i64 0] 0 false))
  rw [get_new] at ldn
  have n3 := A3.lt
  have po := PL.one
  simp +contextual only [ia, ld0, ldn, q4, po.1, po.2.1, ↓wA, wD, simprocAttr]
  have hB : ∀ b, Old h b → b ≠ pa h3.next := fun b q e => by
    unfold Old at q
    rw [e, unPa_pa] at q
    have := E3.next
    omega
  refine loopK_intro (fun r g => r 0 = v ∧ r 3 = .ptr (pa h.next) 0 ∧ r 8 = .ptr (pa h3.next) 0 ∧ ∃ (i asked fu : Nat) (vp : V), r 7 = .int .i64 asked ∧ asked ≤ i ∧ ∃ hi : i < d.length, d.length ≤ fu + i ∧ goM d t fu i asked = goM d t d.length 0 0 ∧
    Has g h.next [.int .i64 t.k, .int .i64 t.n, vl] ∧ Has g h3.next [.int .i64 d[i].kind, .int .i64 d[i].row, vp, .bool d[i].num, .int .i64 d[i].n, .int .i64 d[i].yes, .int .i64 d[i].no] ∧ SlD (Old h) g 1 (d[i].path.map encI) vp ∧ SlD (Old h) g 7 (d.map Ch.enc) v ∧ CsIn (Old h) g t.enc [.int .i64 t.k, .int .i64 t.n, vl] ∧ Ext h g) (fun r g => d.length - (r 7).toN) ?_ ?_
  · refine ⟨by simp only [↓wA, wC, simprocAttr], by simp only [↓wA, wC, simprocAttr], by simp only [↓wA, wC, simprocAttr], 0, 0, d.length, vp, by simp only [↓wA, wC, simprocAttr] <;> rfl, by omega, hpos, by omega, rfl, A3.ext e4, B4, ?_, (Hd.olds.ext E3).ext e4, (H.olds.ext E3).ext e4, E3.trans e4⟩
    obtain ⟨b', off', vp', ia', PL', ld'⟩ := Ch.at (Hd.olds.ext E3) (k := .i64) hpos
    simp only [Nat.zero_mul, Nat.add_zero] at ia' ld'
    rw [show ((0 : Nat) : Int) = 0 from rfl, ia] at ia'
    simp only [Option.some.injEq, V.ptr.injEq] at ia'
    have q := ld' h3 (Ext.refl h3)
    rw [← ia'.1, ← ia'.2, ld0] at q
    simp only [Option.some.injEq, V.agg.injEq, List.cons.injEq, and_true, true_and] at q
    rw [q]
    exact PL'.ext e4
  rintro r g ⟨r0, r3, r8, i, asked, fu, vp, r7, hai, hi, hfu, hgo, A, B, PL, HG, TG, E⟩
  unfold c17l1
  obtain ⟨f', rfl⟩ : ∃ f', fu = f' + 1 := ⟨fu - 1, by omega⟩
  rw [goM, List.getElem?_eq_getElem hi] at hgo
  simp only at hgo
  rcases dec_at hdB i hi with ⟨k1, y1, y2, y3, y4⟩ | k2 | k3
  rotate_left
  · rw [if_pos k2] at hgo
    by_cases hr : d[i].row < 0
    · rw [if_pos hr] at hgo
      simp +contextual only [r0, r3, r8, r7, B.g, k2, eq_true k2, eq_true hr, eq_false (show ¬ d[i].kind = 1 by omega), eq_false (show ¬ d[i].kind = 3 by omega), ↓wA, wD, simprocAttr]
      exact ⟨by rw [← hgo]; rfl, E⟩
    · rw [if_neg hr] at hgo
      simp +contextual only [r0, r3, r8, r7, B.g, k2, eq_true k2, eq_false hr, eq_false (show ¬ d[i].kind = 1 by omega), eq_false (show ¬ d[i].kind = 3 by omega), ↓wA, wD, simprocAttr]
      exact ⟨by rw [← hgo]; rfl, E⟩
  · rw [if_neg (by omega), if_pos k3] at hgo
    simp +contextual only [r0, r3, r8, r7, B.g, k3, eq_false (show ¬ d[i].kind = 2 by omega), eq_false (show ¬ d[i].kind = 1 by omega), eq_true k3, ↓wA, wD, simprocAttr]
    exact ⟨by rw [← hgo]; rfl, E⟩
  rw [if_neg (by omega), if_neg (by omega)] at hgo
  have z1 := eq_true k1
  have z2 := eq_false (show ¬ d[i].kind = 2 by omega)
  have z3 := eq_false (show ¬ d[i].kind = 3 by omega)
  have wi := w_inc (show asked < d.length by omega) (by unfold top at hle; omega)
  have lenG := HG.len
  cases hnum : d[i].num with
  | true =>
    simp +contextual only [r0, r3, r8, r7, B.g, A.g, z1, z2, z3, hnum, ↓wA, wD, simprocAttr]
    refine callK_intro (at_ctr t d[i].path _ vp g (TG.weak fun _ _ => trivial) (PL.weak fun _ _ => trivial)) ?_
    rintro x g1 ⟨us, rfl, U, x1⟩
    obtain ⟨ul, rfl, UL⟩ := Tr.open U
    have uo := UL.one
    obtain ⟨g2, w2, x2, C2⟩ := box_st g1 [.int .i64 0, .int .i64 0, .nilslice] [.int .i64 ((atT t d[i].path).getD zeroT).k, .int .i64 ((atT t d[i].path).getD zeroT).n, ul]
    have X := x1.trans x2
    have B2 := B.ext X
    have A2' := A.ext X
    rw [hnum] at hgo B2
    cases hat : atT t d[i].path with
    | none =>
      rw [hat] at hgo w2 C2
      simp +contextual only [r0, r3, r8, r7, w2, B2.g, C2.g, uo.1, uo.2.1, Option.isSome_none, ↓wA, wD, simprocAttr]
      exact ⟨by rw [← hgo]; rfl, E.trans X⟩
    | some u =>
      rw [hat] at hgo w2 C2
      simp only [Option.getD_some] at hgo w2 C2
      by_cases hk : u.k = 1
      rotate_left
      · rw [if_neg (by simpa using hk)] at hgo
        simp +contextual only [r0, r3, r8, r7, w2, B2.g, C2.g, uo.1, uo.2.1, Option.isSome_some, Option.getD_some, eq_false hk, ↓wA, wD, simprocAttr]
        exact ⟨by rw [← hgo]; rfl, E.trans X⟩
      rw [if_pos (by simpa using hk)] at hgo
      have hb8 : ¬ Old h (pa h3.next) := fun q => hB _ q rfl
      have nC : g1.next ≠ h3.next := by have := (B.ext x1).lt; omega
      by_cases hn : u.n = d[i].n
      · rw [if_pos hn] at hgo
        obtain ⟨j, hj⟩ := Int.eq_ofNat_of_zero_le (show 0 ≤ d[i].yes by omega)
        rw [hj] at hgo y1 y2
        simp only [Int.toNat_natCast] at hgo
        have hjl : j < d.length := by omega
        obtain ⟨b3, off3, vq, ia3, PQ, ld3⟩ := Ch.at (HG.ext X) (k := .i64) hjl
        have ld4 := ld3 g2 (Ext.refl g2)
        have pq := PQ.one
        simp +contextual only [r0, r3, r8, r7, w2, B2.g, C2.g, A2'.g, uo.1, uo.2.1, Option.isSome_some, Option.getD_some, eq_true hk, eq_true hn, hj, ia3, ld4, wi, pq.1, pq.2.1, ↓wA, wD, simprocAttr]
        exact ⟨⟨j, asked + 1, f', vq, rfl, by omega, hjl, by omega, hgo, A2'.set (by omega) _, B2.put _, PQ.set hb8 _, (HG.ext X).set hb8 _, (TG.ext X).set hb8 _, (E.trans X).set (by omega) _⟩, by omega⟩
      · rw [if_neg hn] at hgo
        obtain ⟨j, hj⟩ := Int.eq_ofNat_of_zero_le (show 0 ≤ d[i].no by omega)
        rw [hj] at hgo y3 y4
        simp only [Int.toNat_natCast] at hgo
        have hjl : j < d.length := by omega
        obtain ⟨b3, off3, vq, ia3, PQ, ld3⟩ := Ch.at (HG.ext X) (k := .i64) hjl
        have ld4 := ld3 g2 (Ext.refl g2)
        have pq := PQ.one
        simp +contextual only [r0, r3, r8, r7, w2, B2.g, C2.g, A2'.g, uo.1, uo.2.1, Option.isSome_some, Option.getD_some, eq_true hk, eq_false hn, hj, ia3, ld4, wi, pq.1, pq.2.1, ↓wA, wD, simprocAttr]
        exact ⟨⟨j, asked + 1, f', vq, rfl, by omega, hjl, by omega, hgo, A2'.set (by omega) _, B2.put _, PQ.set hb8 _, (HG.ext X).set hb8 _, (TG.ext X).set hb8 _, (E.trans X).set (by omega) _⟩, by omega⟩
  | false =>
    simp +contextual only [r0, r3, r8, r7, B.g, A.g, z1, z2, z3, hnum, ↓wA, wD, simprocAttr]
    refine callK_intro (at_ctr t d[i].path _ vp g (TG.weak fun _ _ => trivial) (PL.weak fun _ _ => trivial)) ?_
    rintro x g1 ⟨us, rfl, U, x1⟩
    obtain ⟨ul, rfl, UL⟩ := Tr.open U
    have uo := UL.one
    obtain ⟨g2, w2, x2, C2⟩ := box_st g1 [.int .i64 0, .int .i64 0, .nilslice] [.int .i64 ((atT t d[i].path).getD zeroT).k, .int .i64 ((atT t d[i].path).getD zeroT).n, ul]
    have X := x1.trans x2
    have B2 := B.ext X
    have A2' := A.ext X
    rw [hnum] at hgo B2
    cases hat : atT t d[i].path with
    | none =>
      rw [hat] at hgo w2 C2
      simp +contextual only [r0, r3, r8, r7, w2, B2.g, C2.g, uo.1, uo.2.1, Option.isSome_none, ↓wA, wD, simprocAttr]
      exact ⟨by rw [← hgo]; rfl, E.trans X⟩
    | some u =>
      rw [hat] at hgo w2 C2
      simp only [Option.getD_some] at hgo w2 C2
      by_cases hk : u.k = 2
      rotate_left
      · rw [if_neg (by simpa using hk)] at hgo
        simp +contextual only [r0, r3, r8, r7, w2, B2.g, C2.g, uo.1, uo.2.1, Option.isSome_some, Option.getD_some, eq_false hk, ↓wA, wD, simprocAttr]
        exact ⟨by rw [← hgo]; rfl, E.trans X⟩
      rw [if_pos (by simpa using hk)] at hgo
      have hb8 : ¬ Old h (pa h3.next) := fun q => hB _ q rfl
      have nC : g1.next ≠ h3.next := by have := (B.ext x1).lt; omega
      by_cases hn : u.n = d[i].n
      · rw [if_pos hn] at hgo
        obtain ⟨j, hj⟩ := Int.eq_ofNat_of_zero_le (show 0 ≤ d[i].yes by omega)
        rw [hj] at hgo y1 y2
        simp only [Int.toNat_natCast] at hgo
        have hjl : j < d.length := by omega
        obtain ⟨b3, off3, vq, ia3, PQ, ld3⟩ := Ch.at (HG.ext X) (k := .i64) hjl
        have ld4 := ld3 g2 (Ext.refl g2)
        have pq := PQ.one
        simp +contextual only [r0, r3, r8, r7, w2, B2.g, C2.g, A2'.g, uo.1, uo.2.1, Option.isSome_some, Option.getD_some, eq_true hk, eq_true hn, hj, ia3, ld4, wi, pq.1, pq.2.1, ↓wA, wD, simprocAttr]
        exact ⟨⟨j, asked + 1, f', vq, rfl, by omega, hjl, by omega, hgo, A2'.set (by omega) _, B2.put _, PQ.set hb8 _, (HG.ext X).set hb8 _, (TG.ext X).set hb8 _, (E.trans X).set (by omega) _⟩, by omega⟩
      · rw [if_neg hn] at hgo
        obtain ⟨j, hj⟩ := Int.eq_ofNat_of_zero_le (show 0 ≤ d[i].no by omega)
        rw [hj] at hgo y3 y4
        simp only [Int.toNat_natCast] at hgo
        have hjl : j < d.length := by omega
        obtain ⟨b3, off3, vq, ia3, PQ, ld3⟩ := Ch.at (HG.ext X) (k := .i64) hjl
        have ld4 := ld3 g2 (Ext.refl g2)
        have pq := PQ.one
        simp +contextual only [r0, r3, r8, r7, w2, B2.g, C2.g, A2'.g, uo.1, uo.2.1, Option.isSome_some, Option.getD_some, eq_true hk, eq_false hn, hj, ia3, ld4, wi, pq.1, pq.2.1, ↓wA, wD, simprocAttr]
        exact ⟨⟨j, asked + 1, f', vq, rfl, by omega, hjl, by omega, hgo, A2'.set (by omega) _, B2.put _, PQ.set hb8 _, (HG.ext X).set hb8 _, (TG.ext X).set hb8 _, (E.trans X).set (by omega) _⟩, by omega⟩
set_option maxHeartbeats 4000000 in
theorem rfollow_ctr (d : List Ch) (t : Tr) (v : V) (vs : List V) (h : Heap) (Hd : SlD Any h 7 (d.map Ch.enc) v) (H : CsIn Any h t.enc vs) : Ctr Tryz.prog 18 [v, .agg vs] h fun x h' => x = tup3 (followM d t) ∧ Ext h h' := by
  obtain ⟨vl, rfl, L⟩ := Tr.open H
  have ol := L.one
  have hl := Hd.len
  have hle := Hd.le
  rw [List.length_map] at hl hle
  refine c18_ctr rfl (wpK_of ?_)
  unfold c18
  obtain ⟨h1, q1, e1, A1⟩ := box_new h [.int .i64 t.k, .int .i64 t.n, vl]
  simp +contextual only [ol.1, ol.2.1, q1, ↓wA, wD, simprocAttr]
  refine callK_intro (rdec_ctr d v h1 (Hd.ext e1)) ?_
  rintro x h2 ⟨rfl, e2⟩
  have A2 := A1.ext e2
  cases hdB : decB d with
  | false =>
    simp +contextual only [↓wA, wD, simprocAttr]
    exact ⟨by rw [followM, hdB, Bool.false_and, if_neg (by simp)]; rfl, e1.trans e2⟩
  | true =>
  simp +contextual only [A2.g, ↓wA, wD, simprocAttr]
  refine callK_intro (rmay_ctr t.size t (Nat.le_refl _) _ h2 (H.ext (e1.trans e2))) ?_
  rintro x h3 ⟨rfl, e3⟩
  have A3 := A2.ext e3
  have E3 := (e1.trans e2).trans e3
  cases hmB : mayT t with
  | false =>
    simp +contextual only [↓wA, wD, simprocAttr]
    exact ⟨by rw [followM, hdB, hmB, Bool.true_and, if_neg (by simp)]; rfl, E3⟩
  | true =>
  have hfm : followM d t = goM d t d.length 0 0 := by rw [followM, hdB, hmB, Bool.true_and, if_pos rfl]
  rw [hfm]
  have hpos := dec_pos hdB
  obtain ⟨b, off, vp, ia, PL, ld⟩ := Ch.at (Hd.ext E3) (k := .i64) hpos
  simp only [Nat.zero_mul, Nat.add_zero] at ia ld
  have ld0 := ld h3 (Ext.refl h3)
  obtain ⟨h4, q4, e4, B4⟩ := box_st h3 [.int .i64 0, .int .i64 0, .nilslice, .bool false, .int .i64 0, .int .i64 0, .int .i64 0] [.int .i64 d[0].kind, .int .i64 d[0].row, vp, .bool d[0].num, .int .i64 d[0].n, .int .i64 d[0].yes, .int .i64 d[0].no]
  rw [show ((0 : Nat) : Int) = 0 from rfl] at ia
  have ldn := ld _ ((Ext.refl h3).new (.ofL [.int .i64 0, .int .i64 0, .nilslice, .bool false, .int .i64 0, .int .i64 0, .int .i64 0] 0 false))
  rw [get_new] at ldn
  have n3 := A3.lt
  have po := PL.one
  simp +contextual only [ia, ld0, ldn, q4, po.1, po.2.1, ↓wA, wD, simprocAttr]
  have hB : ∀ b, Old h b → b ≠ pa h3.next := fun b q e => by
    unfold Old at q
    rw [e, unPa_pa] at q
    have := E3.next
    omega
  refine loopK_intro (fun r g => r 0 = v ∧ r 3 = .ptr (pa h.next) 0 ∧ r 8 = .ptr (pa h3.next) 0 ∧ ∃ (i asked fu : Nat) (vp : V), r 7 = .int .i64 asked ∧ asked ≤ i ∧ ∃ hi : i < d.length, d.length ≤ fu + i ∧ goM d t fu i asked = goM d t d.length 0 0 ∧
    Has g h.next [.int .i64 t.k, .int .i64 t.n, vl] ∧ Has g h3.next [.int .i64 d[i].kind, .int .i64 d[i].row, vp, .bool d[i].num, .int .i64 d[i].n, .int .i64 d[i].yes, .int .i64 d[i].no] ∧ SlD (Old h) g 1 (d[i].path.map encI) vp ∧ SlD (Old h) g 7 (d.map Ch.enc) v ∧ CsIn (Old h) g t.enc [.int .i64 t.k, .int .i64 t.n, vl] ∧ Ext h g) (fun r g => d.length - (r 7).toN) ?_ ?_
  · refine ⟨by simp only [↓wA, wC, simprocAttr], by simp only [↓wA, wC, simprocAttr], by simp only [↓wA, wC, simprocAttr], 0, 0, d.length, vp, by simp only [↓wA, wC, simprocAttr] <;> rfl, by omega, hpos, by omega, rfl, A3.ext e4, B4, ?_, (Hd.olds.ext E3).ext e4, (H.olds.ext E3).ext e4, E3.trans e4⟩
    obtain ⟨b', off', vp', ia', PL', ld'⟩ := Ch.at (Hd.olds.ext E3) (k := .i64) hpos
    simp only [Nat.zero_mul, Nat.add_zero] at ia' ld'
    rw [show ((0 : Nat) : Int) = 0 from rfl, ia] at ia'
    simp only [Option.some.injEq, V.ptr.injEq] at ia'
    have q := ld' h3 (Ext.refl h3)
    rw [← ia'.1, ← ia'.2, ld0] at q
    simp only [Option.some.injEq, V.agg.injEq, List.cons.injEq, and_true, true_and] at q
    rw [q]
    exact PL'.ext e4
  rintro r g ⟨r0, r3, r8, i, asked, fu, vp, r7, hai, hi, hfu, hgo, A, B, PL, HG, TG, E⟩
  unfold c18l1
  obtain ⟨f', rfl⟩ : ∃ f', fu = f' + 1 := ⟨fu - 1, by omega⟩
  rw [goM, List.getElem?_eq_getElem hi] at hgo
  simp only at hgo
  rcases dec_at hdB i hi with ⟨k1, y1, y2, y3, y4⟩ | k2 | k3
  rotate_left
  · rw [if_pos k2] at hgo
    by_cases hr : d[i].row < 0
    · rw [if_pos hr] at hgo
      simp +contextual only [r0, r3, r8, r7, B.g, k2, eq_true k2, eq_true hr, eq_false (show ¬ d[i].kind = 1 by omega), eq_false (show ¬ d[i].kind = 3 by omega), ↓wA, wD, simprocAttr]
      exact ⟨by rw [← hgo]; rfl, E⟩
    · rw [if_neg hr] at hgo
      simp +contextual only [r0, r3, r8, r7, B.g, k2, eq_true k2, eq_false hr, eq_false (show ¬ d[i].kind = 1 by omega), eq_false (show ¬ d[i].kind = 3 by omega), ↓wA, wD, simprocAttr]
      exact ⟨by rw [← hgo]; rfl, E⟩
  · rw [if_neg (by omega), if_pos k3] at hgo
    simp +contextual only [r0, r3, r8, r7, B.g, k3, eq_false (show ¬ d[i].kind = 2 by omega), eq_false (show ¬ d[i].kind = 1 by omega), eq_true k3, ↓wA, wD, simprocAttr]
    exact ⟨by rw [← hgo]; rfl, E⟩
  rw [if_neg (by omega), if_neg (by omega)] at hgo
  have z1 := eq_true k1
  have z2 := eq_false (show ¬ d[i].kind = 2 by omega)
  have z3 := eq_false (show ¬ d[i].kind = 3 by omega)
  have wi := w_inc (show asked < d.length by omega) (by unfold top at hle; omega)
  have lenG := HG.len
  cases hnum : d[i].num with
  | true =>
    simp +contextual only [r0, r3, r8, r7, B.g, A.g, z1, z2, z3, hnum, ↓wA, wD, simprocAttr]
    refine callK_intro (rat_ctr t d[i].path _ vp g (TG.weak fun _ _ => trivial) (PL.weak fun _ _ => trivial)) ?_
    rintro x g1 ⟨us, rfl, U, x1⟩
    obtain ⟨ul, rfl, UL⟩ := Tr.open U
    have uo := UL.one
    obtain ⟨g2, w2, x2, C2⟩ := box_st g1 [.int .i64 0, .int .i64 0, .nilslice] [.int .i64 ((atT t d[i].path).getD zeroT).k, .int .i64 ((atT t d[i].path).getD zeroT).n, ul]
    have X := x1.trans x2
    have B2 := B.ext X
    have A2' := A.ext X
    rw [hnum] at hgo B2
    cases hat : atT t d[i].path with
    | none =>
      rw [hat] at hgo w2 C2
      simp +contextual only [r0, r3, r8, r7, w2, B2.g, C2.g, uo.1, uo.2.1, Option.isSome_none, ↓wA, wD, simprocAttr]
      exact ⟨by rw [← hgo]; rfl, E.trans X⟩
    | some u =>
      rw [hat] at hgo w2 C2
      simp only [Option.getD_some] at hgo w2 C2
      by_cases hk : u.k = 1
      rotate_left
      · rw [if_neg (by simpa using hk)] at hgo
        simp +contextual only [r0, r3, r8, r7, w2, B2.g, C2.g, uo.1, uo.2.1, Option.isSome_some, Option.getD_some, eq_false hk, ↓wA, wD, simprocAttr]
        exact ⟨by rw [← hgo]; rfl, E.trans X⟩
      rw [if_pos (by simpa using hk)] at hgo
      have hb8 : ¬ Old h (pa h3.next) := fun q => hB _ q rfl
      have nC : g1.next ≠ h3.next := by have := (B.ext x1).lt; omega
      by_cases hn : u.n = d[i].n
      · rw [if_pos hn] at hgo
        obtain ⟨j, hj⟩ := Int.eq_ofNat_of_zero_le (show 0 ≤ d[i].yes by omega)
        rw [hj] at hgo y1 y2
        simp only [Int.toNat_natCast] at hgo
        have hjl : j < d.length := by omega
        obtain ⟨b3, off3, vq, ia3, PQ, ld3⟩ := Ch.at (HG.ext X) (k := .i64) hjl
        have ld4 := ld3 g2 (Ext.refl g2)
        have pq := PQ.one
        simp +contextual only [r0, r3, r8, r7, w2, B2.g, C2.g, A2'.g, uo.1, uo.2.1, Option.isSome_some, Option.getD_some, eq_true hk, eq_true hn, hj, ia3, ld4, wi, pq.1, pq.2.1, ↓wA, wD, simprocAttr]
        exact ⟨⟨j, asked + 1, f', vq, rfl, by omega, hjl, by omega, hgo, A2'.set (by omega) _, B2.put _, PQ.set hb8 _, (HG.ext X).set hb8 _, (TG.ext X).set hb8 _, (E.trans X).set (by omega) _⟩, by omega⟩
      · rw [if_neg hn] at hgo
        obtain ⟨j, hj⟩ := Int.eq_ofNat_of_zero_le (show 0 ≤ d[i].no by omega)
        rw [hj] at hgo y3 y4
        simp only [Int.toNat_natCast] at hgo
        have hjl : j < d.length := by omega
        obtain ⟨b3, off3, vq, ia3, PQ, ld3⟩ := Ch.at (HG.ext X) (k := .i64) hjl
        have ld4 := ld3 g2 (Ext.refl g2)
        have pq := PQ.one
        simp +contextual only [r0, r3, r8, r7, w2, B2.g, C2.g, A2'.g, uo.1, uo.2.1, Option.isSome_some, Option.getD_some, eq_true hk, eq_false hn, hj, ia3, ld4, wi, pq.1, pq.2.1, ↓wA, wD, simprocAttr]
        exact ⟨⟨j, asked + 1, f', vq, rfl, by omega, hjl, by omega, hgo, A2'.set (by omega) _, B2.put _, PQ.set hb8 _, (HG.ext X).set hb8 _, (TG.ext X).set hb8 _, (E.trans X).set (by omega) _⟩, by omega⟩
  | false =>
    simp +contextual only [r0, r3, r8, r7, B.g, A.g, z1, z2, z3, hnum, ↓wA, wD, simprocAttr]
    refine callK_intro (rat_ctr t d[i].path _ vp g (TG.weak fun _ _ => trivial) (PL.weak fun _ _ => trivial)) ?_
    rintro x g1 ⟨us, rfl, U, x1⟩
    obtain ⟨ul, rfl, UL⟩ := Tr.open U
    have uo := UL.one
    obtain ⟨g2, w2, x2, C2⟩ := box_st g1 [.int .i64 0, .int .i64 0, .nilslice] [.int .i64 ((atT t d[i].path).getD zeroT).k, .int .i64 ((atT t d[i].path).getD zeroT).n, ul]
    have X := x1.trans x2
    have B2 := B.ext X
    have A2' := A.ext X
    rw [hnum] at hgo B2
    cases hat : atT t d[i].path with
    | none =>
      rw [hat] at hgo w2 C2
      simp +contextual only [r0, r3, r8, r7, w2, B2.g, C2.g, uo.1, uo.2.1, Option.isSome_none, ↓wA, wD, simprocAttr]
      exact ⟨by rw [← hgo]; rfl, E.trans X⟩
    | some u =>
      rw [hat] at hgo w2 C2
      simp only [Option.getD_some] at hgo w2 C2
      by_cases hk : u.k = 2
      rotate_left
      · rw [if_neg (by simpa using hk)] at hgo
        simp +contextual only [r0, r3, r8, r7, w2, B2.g, C2.g, uo.1, uo.2.1, Option.isSome_some, Option.getD_some, eq_false hk, ↓wA, wD, simprocAttr]
        exact ⟨by rw [← hgo]; rfl, E.trans X⟩
      rw [if_pos (by simpa using hk)] at hgo
      have hb8 : ¬ Old h (pa h3.next) := fun q => hB _ q rfl
      have nC : g1.next ≠ h3.next := by have := (B.ext x1).lt; omega
      by_cases hn : u.n = d[i].n
      · rw [if_pos hn] at hgo
        obtain ⟨j, hj⟩ := Int.eq_ofNat_of_zero_le (show 0 ≤ d[i].yes by omega)
        rw [hj] at hgo y1 y2
        simp only [Int.toNat_natCast] at hgo
        have hjl : j < d.length := by omega
        obtain ⟨b3, off3, vq, ia3, PQ, ld3⟩ := Ch.at (HG.ext X) (k := .i64) hjl
        have ld4 := ld3 g2 (Ext.refl g2)
        have pq := PQ.one
        simp +contextual only [r0, r3, r8, r7, w2, B2.g, C2.g, A2'.g, uo.1, uo.2.1, Option.isSome_some, Option.getD_some, eq_true hk, eq_true hn, hj, ia3, ld4, wi, pq.1, pq.2.1, ↓wA, wD, simprocAttr]
        exact ⟨⟨j, asked + 1, f', vq, rfl, by omega, hjl, by omega, hgo, A2'.set (by omega) _, B2.put _, PQ.set hb8 _, (HG.ext X).set hb8 _, (TG.ext X).set hb8 _, (E.trans X).set (by omega) _⟩, by omega⟩
      · rw [if_neg hn] at hgo
        obtain ⟨j, hj⟩ := Int.eq_ofNat_of_zero_le (show 0 ≤ d[i].no by omega)
        rw [hj] at hgo y3 y4
        simp only [Int.toNat_natCast] at hgo
        have hjl : j < d.length := by omega
        obtain ⟨b3, off3, vq, ia3, PQ, ld3⟩ := Ch.at (HG.ext X) (k := .i64) hjl
        have ld4 := ld3 g2 (Ext.refl g2)
        have pq := PQ.one
        simp +contextual only [r0, r3, r8, r7, w2, B2.g, C2.g, A2'.g, uo.1, uo.2.1, Option.isSome_some, Option.getD_some, eq_true hk, eq_false hn, hj, ia3, ld4, wi, pq.1, pq.2.1, ↓wA, wD, simprocAttr]
        exact ⟨⟨j, asked + 1, f', vq, rfl, by omega, hjl, by omega, hgo, A2'.set (by omega) _, B2.put _, PQ.set hb8 _, (HG.ext X).set hb8 _, (TG.ext X).set hb8 _, (E.trans X).set (by omega) _⟩, by omega⟩
end Go.Proofs.YtigflhomnoledaaGreatDoor
namespace Go.Proofs.YtigflhomnoledaaGreatDoor
open Go Am Go.RowKit
set_option maxRecDepth 100000 in
theorem awake_run : truly ctx 100000 8 [] = true := by kernel_rfl
theorem awake_calls (h : Heap) : CallsV Tryz.prog 8 [] h (.bool true) h :=
  closed_callsV (by kernel_rfl) (fun E x q => by subst q; simp [Rel]) ⟨_, Tryz.func8, by kernel_rfl⟩ (fun w hw => truly_sound (C := ctx) follows namesOk hw primOk (by kernel_rfl) (by kernel_rfl) awake_run) h
theorem awake_ctr (h : Heap) : Ctr Tryz.prog 8 [] h fun x h' => x = .bool true ∧ h' = h := ⟨_, _, awake_calls h, rfl, rfl⟩
end Go.Proofs.YtigflhomnoledaaGreatDoor
namespace Go.Proofs.YtigflhomnoledaaGreatDoor
open Go Am
set_option maxHeartbeats 1000000 in
theorem law_ctr (d : List Ch) (t : Tr) (v : V) (vs : List V) (h : Heap) (Hd : SlD Any h 7 (d.map Ch.enc) v) (H : CsIn Any h t.enc vs) : Ctr Tryz.prog 4 [v, .agg vs] h fun x h' => x = .bool true := by
  obtain ⟨vl, rfl, L⟩ := Tr.open H
  have ol := L.one
  refine c4_ctr rfl (wpK_of ?_)
  unfold c4
  obtain ⟨h1, q1, e1, A1⟩ := box_new h [.int .i64 t.k, .int .i64 t.n, vl]
  simp +contextual only [ol.1, ol.2.1, q1, ↓wA, wD, simprocAttr]
  refine callK_intro (large_ch d 100 v h1 (Hd.ext e1)) ?_
  rintro x h2 ⟨⟨b, rfl⟩, hh⟩
  subst hh
  cases b with
  | true =>
    simp +contextual only [↓wA, wD, simprocAttr]
    refine callK_intro (awake_ctr _) ?_
    rintro x h3 ⟨rfl, rfl⟩
    simp +contextual only [↓wA, wD, simprocAttr]
  | false =>
  simp +contextual only [A1.g, ↓wA, wD, simprocAttr]
  refine callK_intro (large_tree t 60 _ h2 (H.ext e1)) ?_
  rintro x h3 ⟨⟨b, rfl⟩, e3⟩
  have A3 := A1.ext e3
  have E3 := e1.trans e3
  cases b with
  | true =>
    simp +contextual only [↓wA, wD, simprocAttr]
    refine callK_intro (awake_ctr _) ?_
    rintro x h3 ⟨rfl, rfl⟩
    simp +contextual only [↓wA, wD, simprocAttr]
  | false =>
  simp +contextual only [A3.g, ↓wA, wD, simprocAttr]
  refine callK_intro (follow_ctr d t v _ h3 (Hd.ext E3) (H.ext E3)) ?_
  rintro x h4 ⟨rfl, e4⟩
  have A4 := A3.ext e4
  simp +contextual only [tup3, A4.g, ↓wA, wD, simprocAttr]
  refine callK_intro (rfollow_ctr d t v _ h4 (Hd.ext (E3.trans e4)) (H.ext (E3.trans e4))) ?_
  rintro x h5 ⟨rfl, e5⟩
  simp +contextual only [tup3, decide_true, ↓wA, wD, simprocAttr]
  refine callK_intro (awake_ctr _) ?_
  rintro x h6 ⟨rfl, rfl⟩
  simp +contextual only [↓wA, wD, simprocAttr]
end Go.Proofs.YtigflhomnoledaaGreatDoor
namespace Go.Proofs.YtigflhomnoledaaGreatDoor
open Go Am
theorem cells29 : Tryz.prog.cellsOf 29 = 3 := by kernel_rfl
theorem cells61 : Tryz.prog.cellsOf 61 = 7 := by kernel_rfl
theorem cells41 : Tryz.prog.cellsOf 41 = 3 := by kernel_rfl
theorem cells27 : Tryz.prog.cellsOf 27 = 1 := by kernel_rfl
theorem cells39 : Tryz.prog.cellsOf 39 = 1 := by kernel_rfl
theorem cells3 : Tryz.prog.cellsOf 3 = 1 := by kernel_rfl
theorem cells4 : Tryz.prog.cellsOf 4 = 1 := by kernel_rfl
set_option maxRecDepth 10000 in
theorem open_int3 {h : Heap} {n m : Nat} {vs : List V} (H : Shp Tryz.prog h n m 3 vs) : ∃ i : Int, CsIn Any h (encI i) vs ∧ vs.length = 1 := by
  obtain ⟨i, rfl, _⟩ := H.int Tryz.underlying3
  exact ⟨i, .i .nil, rfl⟩
theorem open_ints {h : Heap} {n m len : Nat} {v : V} (H : Sld h 1 v len m (fun k => Shp Tryz.prog h n k 3)) (hm : m ≤ 1048576) : ∃ p : List Int, SlD Any h 1 (p.map encI) v := by
  obtain ⟨p, _, _, L⟩ := open_list encI H hm fun k vs _ q => open_int3 q
  exact ⟨p, L⟩
set_option maxRecDepth 10000 in
theorem open_tree : ∀ (n : Nat) {m : Nat} {h : Heap} {vs : List V}, Shp Tryz.prog h n m 29 vs → m ≤ 1048576 → ∃ t : Tr, CsIn Any h t.enc vs ∧ vs.length = 3
  | 0, m, h, vs, H, _ => H.elim
  | n + 1, m, h, vs, H, hm => by
    obtain ⟨n', e, hl, ms, h1, h2, h3⟩ := H.struct Tryz.underlying29
    obtain rfl : n = n' := by omega
    rw [cells29] at hl
    match vs, hl with
    | [v0, v1, v2], _ =>
      have h1' : ms.length = 3 := h1
      clear h1
      match ms, h1' with
      | [m0, m1, m2], _ =>
        have f0 := (h3 0 _ _ rfl rfl).2
        have f1 := (h3 1 _ _ rfl rfl).2
        have f2 := (h3 2 _ _ rfl rfl).2
        simp only [cells3, cells27] at f0 f1 f2
        obtain ⟨i0, e0, _⟩ := f0.int Tryz.underlying3
        obtain ⟨i1, e1, _⟩ := f1.int Tryz.underlying3
        obtain ⟨n2, w2, l2, r2, e2, S2⟩ := f2.slice Tryz.underlying27 (by rw [cells29]; decide)
        simp only [List.drop_zero, List.drop_succ_cons, List.take_succ_cons, List.take_zero, List.cons.injEq, and_true] at e0 e1 e2
        subst e0 e1 e2
        simp only [List.sum_cons, List.sum_nil] at h2
        rw [cells29] at S2
        obtain rfl : n = n2 + 1 := r2
        obtain ⟨l, _, _, L⟩ := open_list Tr.enc S2 (by omega) fun k vs hk q => open_tree n2 q (by omega)
        refine ⟨.mk i0 i1 l, ?_, rfl⟩
        rw [enc_eq]
        exact .i (.i (L.cons .nil))
set_option maxRecDepth 10000 in
theorem open_choice {n m : Nat} {h : Heap} {vs : List V} (H : Shp Tryz.prog h n m 61 vs) (hm : m ≤ 1048576) : ∃ c : Ch, CsIn Any h c.enc vs ∧ vs.length = 7 := by
  obtain ⟨n', e, hl, ms, h1, h2, h3⟩ := H.struct Tryz.underlying61
  rw [cells61] at hl
  match vs, hl with
  | [v0, v1, v2, v3, v4, v5, v6], _ =>
    have h1' : ms.length = 5 := h1
    clear h1
    match ms, h1' with
    | [m0, m1, m2, m3, m4], _ =>
      have f0 := (h3 0 _ _ rfl rfl).2
      have f1 := (h3 1 _ _ rfl rfl).2
      have f2 := (h3 2 _ _ rfl rfl).2
      have f3 := (h3 3 _ _ rfl rfl).2
      have f4 := (h3 4 _ _ rfl rfl).2
      simp only [cells3, cells41] at f0 f1 f2 f3 f4
      obtain ⟨i0, e0, _⟩ := f0.int Tryz.underlying3
      obtain ⟨i1, e1, _⟩ := f1.int Tryz.underlying3
      obtain ⟨i3, e3, _⟩ := f3.int Tryz.underlying3
      obtain ⟨i4, e4, _⟩ := f4.int Tryz.underlying3
      simp only [List.drop_zero, List.drop_succ_cons, List.take_succ_cons, List.take_zero, List.cons.injEq, and_true] at e0 e1 e3 e4 f2
      subst e0 e1 e3 e4
      simp only [List.sum_cons, List.sum_nil] at h2
      obtain ⟨n2, e2, _, ks, k1, k2, k3⟩ := f2.struct Tryz.underlying41
      have k1' : ks.length = 3 := k1
      clear k1
      match ks, k1' with
      | [k0, k1, k4], _ =>
        have g0 := (k3 0 _ _ rfl rfl).2
        have g1 := (k3 1 _ _ rfl rfl).2
        have g2 := (k3 2 _ _ rfl rfl).2
        simp only [cells3, cells4, cells39] at g0 g1 g2
        obtain ⟨n5, w5, l5, r5, e5, S5⟩ := g0.slice Tryz.underlying39 (by rw [cells3]; decide)
        obtain ⟨b, e6⟩ := g1.bool Tryz.underlying4
        obtain ⟨i7, e7, _⟩ := g2.int Tryz.underlying3
        simp only [List.drop_zero, List.drop_succ_cons, List.take_succ_cons, List.take_zero, List.cons.injEq, and_true] at e5 e6 e7
        subst e5 e6 e7
        simp only [List.sum_cons, List.sum_nil] at k2
        rw [cells3] at S5
        obtain ⟨p, L⟩ := open_ints S5 (by omega)
        exact ⟨⟨i0, i1, p, b, i7, i3, i4⟩, .i (.i (L.cons (.b (.i (.i (.i .nil)))))), rfl⟩
end Go.Proofs.YtigflhomnoledaaGreatDoor

/- The chapter's functions, walked by the abstract machine: plain lemmas, no condition. -/
import Derived.Test.YtpfmfpakbfkfoaaGreatDoorM6
import Derived.Test.YtpfmfpakbfkfoaaGreatDoorM7
import Derived.Test.YtpfmfpakbfkfoaaGreatDoorM8
import Derived.Test.YtpfmfpakbfkfoaaGreatDoorM9
import Derived.Test.YtpfmfpakbfkfoaaGreatDoorM10
import Derived.Test.YtpfmfpakbfkfoaaGreatDoorM11
import Derived.Test.YtpfmfpakbfkfoaaGreatDoorM12
import Derived.Test.YtpfmfpakbfkfoaaGreatDoorM13
import Derived.Test.YtpfmfpakbfkfoaaGreatDoorM14
import Derived.Test.YtpfmfpakbfkfoaaGreatDoorM15
import Derived.Test.YtpfmfpakbfkfoaaGreatDoorM16
import Derived.Test.YtpfmfpakbfkfoaaGreatDoorM17
import Derived.Test.YtpfmfpakbfkfoaaGreatDoorM18
import Derived.IntWalk
set_option linter.unusedSectionVars false
set_option linter.unusedSimpArgs false
set_option linter.unusedVariables false

namespace Go.Proofs.YtpfmfpakbfkfoaaGreatDoor
open Go Am
set_option maxRecDepth 100000 in
/-- leF: source.Run -/
noncomputable def sn_leF : Snap := ⟨[(.slice (pa 13) 0 1 1), .nilslice, (.int .i64 50)],
⟨14, [(0, .cells 8 (puts .e 0 [(.str [43]), (.str [45]), (.str [42]), (.str [47]), (.str [109, 111, 100]), (.str [61]), (.str [60]), (.str [60, 61])]) 0 false),
(1, .cells 5 (puts .e 0 [(.int .i64 20), (.sym .i64 1), (.int .i64 0), (.str []), .nilslice]) 0 false),
(2, .cells 5 (puts .e 0 [(.int .i64 20), (.sym .i64 2), (.int .i64 0), (.str []), .nilslice]) 0 false),
(3, .cells 10 (puts .e 0 [(.int .i64 20), (.sym .i64 1), (.int .i64 0), (.str []), .nilslice, (.int .i64 20), (.sym .i64 2), (.int .i64 0), (.str []), .nilslice]) 0 false),
(4, .cells 5 (puts .e 0 [(.int .i64 31), (.int .i64 0), (.int .i64 0), (.str []), (.slice (pa 5) 0 3 3)]) 0 false),
(5, .cells 15 (puts .e 0 [(.int .i64 38), (.int .i64 0), (.int .i64 0), (.str [60, 61]), (.slice (pa 3) 0 2 2), (.int .i64 20), (.int .i64 1), (.int .i64 0), (.str []), .nilslice, (.int .i64 20), (.int .i64 0), (.int .i64 0), (.str []), .nilslice]) 0 false),
(6, .cells 10 (puts .e 0 [(.int .i64 31), (.int .i64 0), (.int .i64 0), (.str []), (.slice (pa 5) 0 3 3), (.int .i64 20), (.int .i64 0), (.int .i64 0), (.str []), .nilslice]) 0 false),
(7, .cells 5 (puts .e 0 [(.int .i64 38), (.int .i64 0), (.int .i64 0), (.str [61]), (.slice (pa 6) 0 2 2)]) 0 false),
(8, .cells 15 (puts .e 0 [(.int .i64 38), (.int .i64 0), (.int .i64 0), (.str [61]), (.slice (pa 6) 0 2 2), (.int .i64 20), (.int .i64 89), (.int .i64 0), (.str []), .nilslice, (.int .i64 20), (.int .i64 78), (.int .i64 0), (.str []), .nilslice]) 0 false),
(9, .cells 10 (puts .e 0 [(.int .i64 24), (.int .i64 0), (.int .i64 0), (.str [112, 117, 116, 99]), .nilslice, (.int .i64 31), (.int .i64 0), (.int .i64 0), (.str []), (.slice (pa 8) 0 3 3)]) 0 false),
(10, .cells 5 (puts .e 0 [(.int .i64 28), (.int .i64 0), (.int .i64 0), (.str []), (.slice (pa 9) 0 2 2)]) 0 false),
(11, .cells 10 (puts .e 0 [(.int .i64 10), (.int .i64 0), (.int .i64 0), (.str []), .nilslice, (.int .i64 28), (.int .i64 0), (.int .i64 0), (.str []), (.slice (pa 9) 0 2 2)]) 0 false),
(12, .cells 5 (puts .e 0 [(.int .i64 52), (.int .i64 0), (.int .i64 0), (.str []), (.slice (pa 11) 0 2 2)]) 0 false),
(13, .cells 5 (puts .e 0 [(.int .i64 52), (.int .i64 0), (.int .i64 0), (.str []), (.slice (pa 11) 0 2 2)]) 0 false)]⟩,
(.agg [(.int .i64 0), (.int .i64 0), (.int .i64 0), (.int .i64 11), (.gslice (pa 910) 0 1 0)]),
⟨913, [(0, .cells 8 (puts .e 0 [(.str [43]), (.str [45]), (.str [42]), (.str [47]), (.str [109, 111, 100]), (.str [61]), (.str [60]), (.str [60, 61])]) 0 false),
(1, .cells 5 (puts .e 0 [(.int .i64 20), (.sym .i64 1), (.int .i64 0), (.str []), .nilslice]) 0 false),
(2, .cells 5 (puts .e 0 [(.int .i64 20), (.sym .i64 2), (.int .i64 0), (.str []), .nilslice]) 0 false),
(3, .cells 10 (puts .e 0 [(.int .i64 20), (.sym .i64 1), (.int .i64 0), (.str []), .nilslice, (.int .i64 20), (.sym .i64 2), (.int .i64 0), (.str []), .nilslice]) 0 false),
(4, .cells 5 (puts .e 0 [(.int .i64 31), (.int .i64 0), (.int .i64 0), (.str []), (.slice (pa 5) 0 3 3)]) 0 false),
(5, .cells 15 (puts .e 0 [(.int .i64 38), (.int .i64 0), (.int .i64 0), (.str [60, 61]), (.slice (pa 3) 0 2 2), (.int .i64 20), (.int .i64 1), (.int .i64 0), (.str []), .nilslice, (.int .i64 20), (.int .i64 0), (.int .i64 0), (.str []), .nilslice]) 0 false),
(6, .cells 10 (puts .e 0 [(.int .i64 31), (.int .i64 0), (.int .i64 0), (.str []), (.slice (pa 5) 0 3 3), (.int .i64 20), (.int .i64 0), (.int .i64 0), (.str []), .nilslice]) 0 false),
(7, .cells 5 (puts .e 0 [(.int .i64 38), (.int .i64 0), (.int .i64 0), (.str [61]), (.slice (pa 6) 0 2 2)]) 0 false),
(8, .cells 15 (puts .e 0 [(.int .i64 38), (.int .i64 0), (.int .i64 0), (.str [61]), (.slice (pa 6) 0 2 2), (.int .i64 20), (.int .i64 89), (.int .i64 0), (.str []), .nilslice, (.int .i64 20), (.int .i64 78), (.int .i64 0), (.str []), .nilslice]) 0 false),
(9, .cells 10 (puts .e 0 [(.int .i64 24), (.int .i64 0), (.int .i64 0), (.str [112, 117, 116, 99]), .nilslice, (.int .i64 31), (.int .i64 0), (.int .i64 0), (.str []), (.slice (pa 8) 0 3 3)]) 0 false),
(10, .cells 5 (puts .e 0 [(.int .i64 28), (.int .i64 0), (.int .i64 0), (.str []), (.slice (pa 9) 0 2 2)]) 0 false),
(11, .cells 10 (puts .e 0 [(.int .i64 10), (.int .i64 0), (.int .i64 0), (.str []), .nilslice, (.int .i64 28), (.int .i64 0), (.int .i64 0), (.str []), (.slice (pa 9) 0 2 2)]) 0 false),
(12, .cells 5 (puts .e 0 [(.int .i64 52), (.int .i64 0), (.int .i64 0), (.str []), (.slice (pa 11) 0 2 2)]) 0 false),
(13, .cells 5 (puts .e 0 [(.int .i64 52), (.int .i64 0), (.int .i64 0), (.str []), (.slice (pa 11) 0 2 2)]) 0 false),
(910, .cells 1 (puts .e 0 [(.int .u8 89)]) 1 false)]⟩⟩
set_option maxRecDepth 100000 in
theorem sn_leF_good (val : Nat → Int) (r : Int) (fine) (fair) : @Snap.good (@lay ⟨val, base r ++ cmp .leq false, [], fine, fair⟩) ctx 100000 7 sn_leF = true := by kernel_rfl
end Go.Proofs.YtpfmfpakbfkfoaaGreatDoor

namespace Go.Proofs.YtpfmfpakbfkfoaaGreatDoor
open Go Am
set_option maxRecDepth 100000
noncomputable def cx_add : Ctx := ctxA.snap 7 [sn_add]
theorem cx_add_ok (val : Nat → Int) (r : Int) (fine) (fair) : @PrimOk (@lay ⟨val, base r ++ arith .add, arithC, fine, fair⟩) cx_add := by
  letI : Nums := ⟨val, base r ++ arith .add, arithC, fine, fair⟩
  exact PrimOk.snaps (C := ctxA) ctxA_ok follows namesOk (by decide) fun s hs => by
    simp only [List.mem_singleton] at hs
    subst hs
    exact ⟨ctx, rfl, rfl, primOk, _, sn_add_good val r fine fair⟩
theorem ru_add0 (val : Nat → Int) (fine) (fair) : @truly (@lay ⟨val, base (0) ++ arith .add, arithC, fine, fair⟩) cx_add 100000 3 [s64 0, s64 1, s64 2] = true := by kernel_rfl
noncomputable def cx_sub : Ctx := ctxA.snap 7 [sn_sub]
theorem cx_sub_ok (val : Nat → Int) (r : Int) (fine) (fair) : @PrimOk (@lay ⟨val, base r ++ arith .sub, arithC, fine, fair⟩) cx_sub := by
  letI : Nums := ⟨val, base r ++ arith .sub, arithC, fine, fair⟩
  exact PrimOk.snaps (C := ctxA) ctxA_ok follows namesOk (by decide) fun s hs => by
    simp only [List.mem_singleton] at hs
    subst hs
    exact ⟨ctx, rfl, rfl, primOk, _, sn_sub_good val r fine fair⟩
theorem ru_sub0 (val : Nat → Int) (fine) (fair) : @truly (@lay ⟨val, base (1) ++ arith .sub, arithC, fine, fair⟩) cx_sub 100000 3 [s64 0, s64 1, s64 2] = true := by kernel_rfl
theorem ru_sub1 (val : Nat → Int) (fine) (fair) : @truly (@lay ⟨val, base (-7) ++ arith .sub, arithC, fine, fair⟩) cx_sub 100000 3 [s64 0, s64 1, s64 2] = true := by kernel_rfl
noncomputable def cx_mul : Ctx := ctxA.snap 7 [sn_mul]
theorem cx_mul_ok (val : Nat → Int) (r : Int) (fine) (fair) : @PrimOk (@lay ⟨val, base r ++ arith .mul, arithC, fine, fair⟩) cx_mul := by
  letI : Nums := ⟨val, base r ++ arith .mul, arithC, fine, fair⟩
  exact PrimOk.snaps (C := ctxA) ctxA_ok follows namesOk (by decide) fun s hs => by
    simp only [List.mem_singleton] at hs
    subst hs
    exact ⟨ctx, rfl, rfl, primOk, _, sn_mul_good val r fine fair⟩
theorem ru_mul0 (val : Nat → Int) (fine) (fair) : @truly (@lay ⟨val, base (2) ++ arith .mul, arithC, fine, fair⟩) cx_mul 100000 3 [s64 0, s64 1, s64 2] = true := by kernel_rfl
theorem ru_mul1 (val : Nat → Int) (fine) (fair) : @truly (@lay ⟨val, base (-6) ++ arith .mul, arithC, fine, fair⟩) cx_mul 100000 3 [s64 0, s64 1, s64 2] = true := by kernel_rfl
noncomputable def cx_quo : Ctx := ctxA.snap 7 [sn_quo]
theorem cx_quo_ok (val : Nat → Int) (r : Int) (fine) (fair) : @PrimOk (@lay ⟨val, base r ++ (zer false ++ arith .quo), arithC, fine, fair⟩) cx_quo := by
  letI : Nums := ⟨val, base r ++ (zer false ++ arith .quo), arithC, fine, fair⟩
  exact PrimOk.snaps (C := ctxA) ctxA_ok follows namesOk (by decide) fun s hs => by
    simp only [List.mem_singleton] at hs
    subst hs
    exact ⟨ctx, rfl, rfl, primOk, _, sn_quo_good val r fine fair⟩
theorem ru_quo0 (val : Nat → Int) (fine) (fair) : @truly (@lay ⟨val, base (3) ++ (zer false ++ arith .quo), arithC, fine, fair⟩) cx_quo 100000 3 [s64 0, s64 1, s64 2] = true := by kernel_rfl
theorem ru_quo1 (val : Nat → Int) (fine) (fair) : @truly (@lay ⟨val, base (-5) ++ (zer false ++ arith .quo), arithC, fine, fair⟩) cx_quo 100000 3 [s64 0, s64 1, s64 2] = true := by kernel_rfl
noncomputable def cx_rem : Ctx := ctxA.snap 7 [sn_rem]
theorem cx_rem_ok (val : Nat → Int) (r : Int) (fine) (fair) : @PrimOk (@lay ⟨val, base r ++ (zer false ++ modu), arithC, fine, fair⟩) cx_rem := by
  letI : Nums := ⟨val, base r ++ (zer false ++ modu), arithC, fine, fair⟩
  exact PrimOk.snaps (C := ctxA) ctxA_ok follows namesOk (by decide) fun s hs => by
    simp only [List.mem_singleton] at hs
    subst hs
    exact ⟨ctx, rfl, rfl, primOk, _, sn_rem_good val r fine fair⟩
theorem ru_rem0 (val : Nat → Int) (fine) (fair) : @truly (@lay ⟨val, base (4) ++ (zer false ++ modu), arithC, fine, fair⟩) cx_rem 100000 3 [s64 0, s64 1, s64 2] = true := by kernel_rfl
theorem ru_rem1 (val : Nat → Int) (fine) (fair) : @truly (@lay ⟨val, base (-4) ++ (zer false ++ modu), arithC, fine, fair⟩) cx_rem 100000 3 [s64 0, s64 1, s64 2] = true := by kernel_rfl
noncomputable def cx_quo0 : Ctx := ctxA.snap 7 [sn_quo0]
theorem cx_quo0_ok (val : Nat → Int) (r : Int) (fine) (fair) : @PrimOk (@lay ⟨val, base r ++ zer true, [], fine, fair⟩) cx_quo0 := by
  letI : Nums := ⟨val, base r ++ zer true, [], fine, fair⟩
  exact PrimOk.snaps (C := ctxA) ctxA_ok follows namesOk (by decide) fun s hs => by
    simp only [List.mem_singleton] at hs
    subst hs
    exact ⟨ctx, rfl, rfl, primOk, _, sn_quo0_good val r fine fair⟩
theorem ru_quo00 (val : Nat → Int) (fine) (fair) : @truly (@lay ⟨val, base (3) ++ zer true, [], fine, fair⟩) cx_quo0 100000 3 [s64 0, s64 1, s64 2] = true := by kernel_rfl
theorem ru_quo01 (val : Nat → Int) (fine) (fair) : @truly (@lay ⟨val, base (-5) ++ zer true, [], fine, fair⟩) cx_quo0 100000 3 [s64 0, s64 1, s64 2] = true := by kernel_rfl
noncomputable def cx_rem0 : Ctx := ctxA.snap 7 [sn_rem0]
theorem cx_rem0_ok (val : Nat → Int) (r : Int) (fine) (fair) : @PrimOk (@lay ⟨val, base r ++ zer true, [], fine, fair⟩) cx_rem0 := by
  letI : Nums := ⟨val, base r ++ zer true, [], fine, fair⟩
  exact PrimOk.snaps (C := ctxA) ctxA_ok follows namesOk (by decide) fun s hs => by
    simp only [List.mem_singleton] at hs
    subst hs
    exact ⟨ctx, rfl, rfl, primOk, _, sn_rem0_good val r fine fair⟩
theorem ru_rem00 (val : Nat → Int) (fine) (fair) : @truly (@lay ⟨val, base (4) ++ zer true, [], fine, fair⟩) cx_rem0 100000 3 [s64 0, s64 1, s64 2] = true := by kernel_rfl
theorem ru_rem01 (val : Nat → Int) (fine) (fair) : @truly (@lay ⟨val, base (-4) ++ zer true, [], fine, fair⟩) cx_rem0 100000 3 [s64 0, s64 1, s64 2] = true := by kernel_rfl
noncomputable def cx_eqT : Ctx := ctxA.snap 7 [sn_eqT]
theorem cx_eqT_ok (val : Nat → Int) (r : Int) (fine) (fair) : @PrimOk (@lay ⟨val, base r ++ cmp .eql true, [], fine, fair⟩) cx_eqT := by
  letI : Nums := ⟨val, base r ++ cmp .eql true, [], fine, fair⟩
  exact PrimOk.snaps (C := ctxA) ctxA_ok follows namesOk (by decide) fun s hs => by
    simp only [List.mem_singleton] at hs
    subst hs
    exact ⟨ctx, rfl, rfl, primOk, _, sn_eqT_good val r fine fair⟩
theorem ru_eqT0 (val : Nat → Int) (fine) (fair) : @truly (@lay ⟨val, base (5) ++ cmp .eql true, [], fine, fair⟩) cx_eqT 100000 3 [s64 0, s64 1, s64 2] = true := by kernel_rfl
theorem ru_eqT1 (val : Nat → Int) (fine) (fair) : @truly (@lay ⟨val, base (-3) ++ cmp .eql true, [], fine, fair⟩) cx_eqT 100000 3 [s64 0, s64 1, s64 2] = true := by kernel_rfl
noncomputable def cx_eqF : Ctx := ctxA.snap 7 [sn_eqF]
theorem cx_eqF_ok (val : Nat → Int) (r : Int) (fine) (fair) : @PrimOk (@lay ⟨val, base r ++ cmp .eql false, [], fine, fair⟩) cx_eqF := by
  letI : Nums := ⟨val, base r ++ cmp .eql false, [], fine, fair⟩
  exact PrimOk.snaps (C := ctxA) ctxA_ok follows namesOk (by decide) fun s hs => by
    simp only [List.mem_singleton] at hs
    subst hs
    exact ⟨ctx, rfl, rfl, primOk, _, sn_eqF_good val r fine fair⟩
theorem ru_eqF0 (val : Nat → Int) (fine) (fair) : @truly (@lay ⟨val, base (5) ++ cmp .eql false, [], fine, fair⟩) cx_eqF 100000 3 [s64 0, s64 1, s64 2] = true := by kernel_rfl
theorem ru_eqF1 (val : Nat → Int) (fine) (fair) : @truly (@lay ⟨val, base (-3) ++ cmp .eql false, [], fine, fair⟩) cx_eqF 100000 3 [s64 0, s64 1, s64 2] = true := by kernel_rfl
noncomputable def cx_ltT : Ctx := ctxA.snap 7 [sn_ltT]
theorem cx_ltT_ok (val : Nat → Int) (r : Int) (fine) (fair) : @PrimOk (@lay ⟨val, base r ++ cmp .lss true, [], fine, fair⟩) cx_ltT := by
  letI : Nums := ⟨val, base r ++ cmp .lss true, [], fine, fair⟩
  exact PrimOk.snaps (C := ctxA) ctxA_ok follows namesOk (by decide) fun s hs => by
    simp only [List.mem_singleton] at hs
    subst hs
    exact ⟨ctx, rfl, rfl, primOk, _, sn_ltT_good val r fine fair⟩
theorem ru_ltT0 (val : Nat → Int) (fine) (fair) : @truly (@lay ⟨val, base (6) ++ cmp .lss true, [], fine, fair⟩) cx_ltT 100000 3 [s64 0, s64 1, s64 2] = true := by kernel_rfl
theorem ru_ltT1 (val : Nat → Int) (fine) (fair) : @truly (@lay ⟨val, base (-2) ++ cmp .lss true, [], fine, fair⟩) cx_ltT 100000 3 [s64 0, s64 1, s64 2] = true := by kernel_rfl
noncomputable def cx_ltF : Ctx := ctxA.snap 7 [sn_ltF]
theorem cx_ltF_ok (val : Nat → Int) (r : Int) (fine) (fair) : @PrimOk (@lay ⟨val, base r ++ cmp .lss false, [], fine, fair⟩) cx_ltF := by
  letI : Nums := ⟨val, base r ++ cmp .lss false, [], fine, fair⟩
  exact PrimOk.snaps (C := ctxA) ctxA_ok follows namesOk (by decide) fun s hs => by
    simp only [List.mem_singleton] at hs
    subst hs
    exact ⟨ctx, rfl, rfl, primOk, _, sn_ltF_good val r fine fair⟩
theorem ru_ltF0 (val : Nat → Int) (fine) (fair) : @truly (@lay ⟨val, base (6) ++ cmp .lss false, [], fine, fair⟩) cx_ltF 100000 3 [s64 0, s64 1, s64 2] = true := by kernel_rfl
theorem ru_ltF1 (val : Nat → Int) (fine) (fair) : @truly (@lay ⟨val, base (-2) ++ cmp .lss false, [], fine, fair⟩) cx_ltF 100000 3 [s64 0, s64 1, s64 2] = true := by kernel_rfl
noncomputable def cx_leT : Ctx := ctxA.snap 7 [sn_leT]
theorem cx_leT_ok (val : Nat → Int) (r : Int) (fine) (fair) : @PrimOk (@lay ⟨val, base r ++ cmp .leq true, [], fine, fair⟩) cx_leT := by
  letI : Nums := ⟨val, base r ++ cmp .leq true, [], fine, fair⟩
  exact PrimOk.snaps (C := ctxA) ctxA_ok follows namesOk (by decide) fun s hs => by
    simp only [List.mem_singleton] at hs
    subst hs
    exact ⟨ctx, rfl, rfl, primOk, _, sn_leT_good val r fine fair⟩
theorem ru_leT0 (val : Nat → Int) (fine) (fair) : @truly (@lay ⟨val, base (7) ++ cmp .leq true, [], fine, fair⟩) cx_leT 100000 3 [s64 0, s64 1, s64 2] = true := by kernel_rfl
theorem ru_leT1 (val : Nat → Int) (fine) (fair) : @truly (@lay ⟨val, base (-1) ++ cmp .leq true, [], fine, fair⟩) cx_leT 100000 3 [s64 0, s64 1, s64 2] = true := by kernel_rfl
noncomputable def cx_leF : Ctx := ctxA.snap 7 [sn_leF]
theorem cx_leF_ok (val : Nat → Int) (r : Int) (fine) (fair) : @PrimOk (@lay ⟨val, base r ++ cmp .leq false, [], fine, fair⟩) cx_leF := by
  letI : Nums := ⟨val, base r ++ cmp .leq false, [], fine, fair⟩
  exact PrimOk.snaps (C := ctxA) ctxA_ok follows namesOk (by decide) fun s hs => by
    simp only [List.mem_singleton] at hs
    subst hs
    exact ⟨ctx, rfl, rfl, primOk, _, sn_leF_good val r fine fair⟩
theorem ru_leF0 (val : Nat → Int) (fine) (fair) : @truly (@lay ⟨val, base (7) ++ cmp .leq false, [], fine, fair⟩) cx_leF 100000 3 [s64 0, s64 1, s64 2] = true := by kernel_rfl
theorem ru_leF1 (val : Nat → Int) (fine) (fair) : @truly (@lay ⟨val, base (-1) ++ cmp .leq false, [], fine, fair⟩) cx_leF 100000 3 [s64 0, s64 1, s64 2] = true := by kernel_rfl
def outa : List TabB := [⟨.lss, s64 1, i64 (-1073741824), .bool true⟩]
theorem ru_outa (val : Nat → Int) (fine) (fair) : @truly (@lay ⟨val, outa, [], fine, fair⟩) ctxA 100000 3 [s64 0, s64 1, s64 2] = true := by kernel_rfl
def outb : List TabB := [⟨.lss, s64 1, i64 (-1073741824), .bool false⟩, ⟨.gtr, s64 1, i64 1073741823, .bool true⟩]
theorem ru_outb (val : Nat → Int) (fine) (fair) : @truly (@lay ⟨val, outb, [], fine, fair⟩) ctxA 100000 3 [s64 0, s64 1, s64 2] = true := by kernel_rfl
def outc : List TabB := [⟨.lss, s64 1, i64 (-1073741824), .bool false⟩, ⟨.gtr, s64 1, i64 1073741823, .bool false⟩, ⟨.lss, s64 2, i64 (-1073741824), .bool true⟩]
theorem ru_outc (val : Nat → Int) (fine) (fair) : @truly (@lay ⟨val, outc, [], fine, fair⟩) ctxA 100000 3 [s64 0, s64 1, s64 2] = true := by kernel_rfl
def outd : List TabB := [⟨.lss, s64 1, i64 (-1073741824), .bool false⟩, ⟨.gtr, s64 1, i64 1073741823, .bool false⟩, ⟨.lss, s64 2, i64 (-1073741824), .bool false⟩, ⟨.gtr, s64 2, i64 1073741823, .bool true⟩]
theorem ru_outd (val : Nat → Int) (fine) (fair) : @truly (@lay ⟨val, outd, [], fine, fair⟩) ctxA 100000 3 [s64 0, s64 1, s64 2] = true := by kernel_rfl
end Go.Proofs.YtpfmfpakbfkfoaaGreatDoor

namespace Go.Proofs.YtpfmfpakbfkfoaaGreatDoor
open Go Am
set_option linter.unusedSimpArgs false
set_option linter.unusedVariables false

/-! What comes of the numbers. -/
@[reducible] noncomputable def lay0 : Lay := { ok := fun _ => True, keep := fun _ _ => trivial }
theorem leB_eq' (a b : Int) : Int.leB a b = decide (a ≤ b) := @leB_eq lay0 a b
theorem eqB_eq' (a b : Int) : Int.eqB a b = (a == b) := @eqB_eq lay0 a b
theorem nb_lss (a b : Int) : (numC .lss).run (.int .i64 a) (.int .i64 b) = some (.bool (decide (a < b))) := by
  show some (V.bool (!Int.leB b a)) = _
  rw [leB_eq', ← decide_not]; congr 3; exact propext Int.not_le
theorem nb_gtr (a b : Int) : (numC .gtr).run (.int .i64 a) (.int .i64 b) = some (.bool (decide (a > b))) := by
  show some (V.bool (!Int.leB a b)) = _
  rw [leB_eq', ← decide_not]; congr 3; exact propext Int.not_le
theorem nb_leq (a b : Int) : (numC .leq).run (.int .i64 a) (.int .i64 b) = some (.bool (decide (a ≤ b))) := by
  show some (V.bool (Int.leB a b)) = _
  rw [leB_eq']
theorem nb_eql (a b : Int) : (numC .eql).run (.int .i64 a) (.int .i64 b) = some (.bool (decide (a = b))) := by
  show some (V.bool (Int.eqB a b)) = _
  rw [eqB_eq']; rfl
theorem nb_rem {a b : Int} (h : b ≠ 0) : (numC .rem).run (.int .i64 a) (.int .i64 b) = some (.int .i64 (a.tmod b)) := by
  show (bif true && !Int.eqB b 0 then some (V.int .i64 (a.tmod b)) else none) = _
  rw [eqB_eq', beq_eq_false_iff_ne.2 h]; rfl
theorem nb_quo {a b : Int} (h : b ≠ 0) : (numC .quo).run (.int .i64 a) (.int .i64 b) = some (.int .i64 (IntKind.i64.wrap (a.tdiv b))) := by
  show (bif true && !Int.eqB b 0 then some (V.int .i64 (IntKind.i64.wrap (a.tdiv b))) else none) = _
  rw [eqB_eq', beq_eq_false_iff_ne.2 h]; rfl
theorem nb_add (a b : Int) : (numC .add).run (.int .i64 a) (.int .i64 b) = some (.int .i64 (IntKind.i64.wrap (a + b))) := rfl
theorem nb_sub (a b : Int) : (numC .sub).run (.int .i64 a) (.int .i64 b) = some (.int .i64 (IntKind.i64.wrap (a - b))) := rfl
theorem nb_mul (a b : Int) : (numC .mul).run (.int .i64 a) (.int .i64 b) = some (.int .i64 (IntKind.i64.wrap (a * b))) := rfl
/-- the numbers, one behind the other -/
def vals (x a b c d : Int) : List Int :=
  let w4 := c.tmod 2147483648
  let w5 := IntKind.i64.wrap (w4 + 2147483648)
  let w6 := IntKind.i64.wrap (w5 + 1073741824)
  let w7 := w6.tmod 2147483648
  let w9 := IntKind.i64.wrap (c * 2)
  [x, a, b, c, w4, w5, w6, w7, IntKind.i64.wrap (w7 - 1073741824), w9, IntKind.i32.wrap w9, IntKind.i64.wrap (IntKind.i32.wrap w9), (IntKind.i64.wrap (IntKind.i32.wrap w9)).fdiv 2, d]
def at' (l : List Int) (i : Nat) : Int := l.getD i 0
def Ok (val : Nat → Int) (e : TabB) : Prop := (numC e.op).run (e.x.den val) (e.y.den val) = some (e.v.den val)
/-- what is wanted is what is made -/
theorem want_is {c : Int} (h1 : -1152921504606846976 ≤ c) (h2 : c ≤ 1152921504606846976) (x a b d : Int) :
    at' (vals x a b c d) 12 = at' (vals x a b c d) 8 ∧ -1073741824 ≤ at' (vals x a b c d) 8 ∧ at' (vals x a b c d) 8 ≤ 1073741823 := by
  show (IntKind.i64.wrap (IntKind.i32.wrap (IntKind.i64.wrap (c * 2)))).fdiv 2 = IntKind.i64.wrap ((IntKind.i64.wrap (IntKind.i64.wrap (c.tmod 2147483648 + 2147483648) + 1073741824)).tmod 2147483648 - 1073741824) ∧ -1073741824 ≤ IntKind.i64.wrap ((IntKind.i64.wrap (IntKind.i64.wrap (c.tmod 2147483648 + 2147483648) + 1073741824)).tmod 2147483648 - 1073741824) ∧ IntKind.i64.wrap ((IntKind.i64.wrap (IntKind.i64.wrap (c.tmod 2147483648 + 2147483648) + 1073741824)).tmod 2147483648 - 1073741824) ≤ 1073741823
  have q := Int.tmod_add_mul_tdiv c 2147483648
  have q1 : c.tmod 2147483648 < 2147483648 := Int.tmod_lt_of_pos _ (by omega)
  have q2 : -2147483648 < c.tmod 2147483648 := by
    have := Int.tmod_lt_of_pos (-c) (show (0 : Int) < 2147483648 by omega)
    rw [Int.neg_tmod] at this
    omega
  generalize c.tmod 2147483648 = t at q q1 q2
  generalize c.tdiv 2147483648 = u at q
  rw [IntWalk.i64_in (t + 2147483648) (by omega), IntWalk.i64_in (t + 2147483648 + 1073741824) (by omega), Int.tmod_eq_emod_of_nonneg (show 0 ≤ t + 2147483648 + 1073741824 by omega)]
  rw [IntWalk.i64_in (c * 2) (by omega), IntWalk.i64_in ((t + 2147483648 + 1073741824) % 2147483648 - 1073741824) (by omega)]
  have r1 : IntKind.i32.wrap (c * 2) = (c * 2 + 2147483648) % 4294967296 - 2147483648 := by rw [IntKind.wrap_i32]
  rw [r1, IntWalk.i64_in _ (by omega), Int.fdiv_eq_ediv_of_nonneg _ (by omega)]
  omega
section
variable {val : Nat → Int} {x a b c d r : Int}
theorem fine_base (h : val = at' (vals x a b c d)) (hr : x.tmod 8 = r) (ha : -1073741824 ≤ a) (ha' : a ≤ 1073741823) (hb : -1073741824 ≤ b) (hb' : b ≤ 1073741823) : ∀ e ∈ base r, Ok val e := by
  subst h
  intro e he
  simp only [base, rng, List.mem_cons, List.mem_append, List.not_mem_nil, or_false] at he
  rcases he with rfl | (rfl | rfl) | rfl | rfl
  · show (numC .rem).run (.int .i64 x) (.int .i64 8) = some (.int .i64 r)
    rw [nb_rem (by omega), hr]
  · show (numC .lss).run (.int .i64 a) (.int .i64 (-1073741824)) = some (.bool false)
    rw [nb_lss, decide_eq_false (by omega)]
  · show (numC .gtr).run (.int .i64 a) (.int .i64 1073741823) = some (.bool false)
    rw [nb_gtr, decide_eq_false (by omega)]
  · show (numC .lss).run (.int .i64 b) (.int .i64 (-1073741824)) = some (.bool false)
    rw [nb_lss, decide_eq_false (by omega)]
  · show (numC .gtr).run (.int .i64 b) (.int .i64 1073741823) = some (.bool false)
    rw [nb_gtr, decide_eq_false (by omega)]
theorem fine_arith (h : val = at' (vals x a b c d)) {op : BinOp} (ho : (numC op).run (.int .i64 a) (.int .i64 b) = some (.int .i64 c)) (h1 : -1152921504606846976 ≤ c) (h2 : c ≤ 1152921504606846976) : ∀ e ∈ arith op, Ok val e := by
  subst h
  obtain ⟨k1, k2, k3⟩ := want_is h1 h2 x a b d
  intro e he
  simp only [arith, rng, List.mem_cons, List.mem_append, List.not_mem_nil, or_false] at he
  rcases he with ((rfl | rfl | rfl | rfl | rfl | rfl) | rfl | rfl) | rfl | rfl | rfl
  · exact ho
  · exact nb_rem (by omega)
  · rfl
  · rfl
  · exact nb_rem (by omega)
  · rfl
  · show (numC .lss).run (.int .i64 (at' (vals x a b c d) 8)) (.int .i64 (-1073741824)) = some (.bool false)
    rw [nb_lss, decide_eq_false (by omega)]
  · show (numC .gtr).run (.int .i64 (at' (vals x a b c d) 8)) (.int .i64 1073741823) = some (.bool false)
    rw [nb_gtr, decide_eq_false (by omega)]
  · rfl
  · rfl
  · show (numC .eql).run (.int .i64 (at' (vals x a b c d) 12)) (.int .i64 (at' (vals x a b c d) 8)) = some (.bool true)
    rw [nb_eql, decide_eq_true k1]
theorem fair_arith (h : val = at' (vals x a b c d)) : ∀ e ∈ arithC, ∃ j n, e.x.den val = .int j n ∧ e.v.den val = .int e.k (e.k.wrap n) := by
  subst h
  intro e he
  simp only [arithC, List.mem_cons, List.not_mem_nil, or_false] at he
  rcases he with rfl | rfl
  · exact ⟨_, _, rfl, rfl⟩
  · exact ⟨_, _, rfl, rfl⟩
theorem fine_zer (h : val = at' (vals x a b c d)) {t : Bool} (ht : decide (b = 0) = t) : ∀ e ∈ zer t, Ok val e := by
  subst h
  intro e he
  simp only [zer, List.mem_cons, List.not_mem_nil, or_false] at he
  subst he
  show (numC .eql).run (.int .i64 b) (.int .i64 0) = some (.bool t)
  rw [nb_eql, ht]
theorem fine_cmp (h : val = at' (vals x a b c d)) {op : BinOp} {t : Bool} (ht : (numC op).run (.int .i64 a) (.int .i64 b) = some (.bool t)) : ∀ e ∈ cmp op t, Ok val e := by
  subst h
  intro e he
  simp only [cmp, List.mem_cons, List.not_mem_nil, or_false] at he
  subst he
  exact ht
theorem fine_modu (h : val = at' (vals x a b c d)) (ho : (numC .rem).run (.int .i64 a) (.int .i64 b) = some (.int .i64 c)) (hq : (numC .quo).run (.int .i64 a) (.int .i64 b) = some (.int .i64 d)) (h1 : -1152921504606846976 ≤ c) (h2 : c ≤ 1152921504606846976) : ∀ e ∈ modu, Ok val e := by
  intro e he
  simp only [modu, List.mem_cons] at he
  rcases he with rfl | he
  · subst h; exact hq
  · exact fine_arith h ho h1 h2 e he
theorem both {l m : List TabB} (h1 : ∀ e ∈ l, Ok val e) (h2 : ∀ e ∈ m, Ok val e) : ∀ e ∈ l ++ m, Ok val e := List.forall_mem_append.2 ⟨h1, h2⟩
theorem fair_nil : ∀ e ∈ ([] : List TabC), ∃ j n, e.x.den val = .int j n ∧ e.v.den val = .int e.k (e.k.wrap n) := fun _ h => by cases h
end
theorem mul_in {a b : Int} (ha : -1073741824 ≤ a) (ha' : a ≤ 1073741823) (hb : -1073741824 ≤ b) (hb' : b ≤ 1073741823) : -1152921504606846976 ≤ a * b ∧ a * b ≤ 1152921504606846976 := by
  have h := Int.natAbs_mul a b
  have := Nat.mul_le_mul (show a.natAbs ≤ 1073741824 by omega) (show b.natAbs ≤ 1073741824 by omega)
  omega
theorem quo_in {a b : Int} (ha : -1073741824 ≤ a) (ha' : a ≤ 1073741823) : -1073741824 ≤ a.tdiv b ∧ a.tdiv b ≤ 1073741824 := by
  have h : (a.tdiv b).natAbs = a.natAbs / b.natAbs := Int.natAbs_tdiv a b
  have := Nat.div_le_self a.natAbs b.natAbs
  rw [← h] at this
  omega
theorem rem_in {a b : Int} (ha : -1073741824 ≤ a) (ha' : a ≤ 1073741823) : -1073741824 ≤ a.tmod b ∧ a.tmod b ≤ 1073741824 := by
  have h : (a.tmod b).natAbs = a.natAbs % b.natAbs := Int.natAbs_tmod a b
  have := Nat.mod_le a.natAbs b.natAbs
  rw [← h] at this
  omega
end Go.Proofs.YtpfmfpakbfkfoaaGreatDoor

/- The chapter's functions, walked by the abstract machine: plain lemmas, no condition. -/
import Derived.Test.YtpfmfpakbfkfoaaGreatDoorM19
import Derived.Test.YtpfmfpakbfkfoaaGreatDoorM20
set_option linter.unusedSectionVars false
set_option linter.unusedSimpArgs false
set_option linter.unusedVariables false

namespace Go.Proofs.YtpfmfpakbfkfoaaGreatDoor
open Go Am Go.RowKit
set_option linter.unusedVariables false

/-! The law SourceSums, of any three numbers. -/
theorem done (T : Nums) {C : Ctx} (hP : @PrimOk (@lay T) C) (hC : C.P = Tryz.prog) (hx : C.ext 3 = none) (hr : @truly (@lay T) C 100000 3 [s64 0, s64 1, s64 2] = true) {w : World} (hw : LibOk w) :
    Calls Tryz.prog 3 #[.int .i64 (T.val 0), .int .i64 (T.val 1), .int .i64 (T.val 2)] w fun e w' => e = .returned (.bool true) ∧ Below w.heap.size w w' := by
  letI := T
  have h := truly_args (C := C) (by rw [hC]; exact follows) (by rw [hC]; exact namesOk) hw hP (by decide) hx (args := [s64 0, s64 1, s64 2]) (xs := [.int .i64 (T.val 0), .int .i64 (T.val 1), .int .i64 (T.val 2)]) (by
    simp only [RelL, Rel, s64]
    exact ⟨_, _, rfl, rfl, _, _, rfl, rfl, _, _, rfl, rfl, rfl⟩) hr
  rw [hC] at h
  exact h
theorem ctxA_okT (T : Nums) : @PrimOk (@lay T) ctxA := by
  letI := T
  exact ctxA_ok
section
variable {x a b : Int} {w : World} (hw : LibOk w)
include hw
theorem out_a (h : a < -1073741824) : Calls Tryz.prog 3 #[.int .i64 x, .int .i64 a, .int .i64 b] w fun e w' => e = .returned (.bool true) ∧ Below w.heap.size w w' :=
  done ⟨at' (vals x a b 0 0), outa, [], (by
    intro e he
    simp only [outa, List.mem_cons, List.not_mem_nil, or_false] at he
    subst he
    · show (numC .lss).run (.int .i64 a) (.int .i64 (-1073741824)) = some (.bool true)
      rw [nb_lss, decide_eq_true (by omega)]), fair_nil⟩ (C := ctxA) (ctxA_okT _) rfl rfl (ru_outa _ _ _) hw
theorem out_b (h0 : -1073741824 ≤ a) (h : 1073741823 < a) : Calls Tryz.prog 3 #[.int .i64 x, .int .i64 a, .int .i64 b] w fun e w' => e = .returned (.bool true) ∧ Below w.heap.size w w' :=
  done ⟨at' (vals x a b 0 0), outb, [], (by
    intro e he
    simp only [outb, List.mem_cons, List.not_mem_nil, or_false] at he
    rcases he with rfl | rfl
    · show (numC .lss).run (.int .i64 a) (.int .i64 (-1073741824)) = some (.bool false)
      rw [nb_lss, decide_eq_false (by omega)]
    · show (numC .gtr).run (.int .i64 a) (.int .i64 1073741823) = some (.bool true)
      rw [nb_gtr, decide_eq_true (by omega)]), fair_nil⟩ (C := ctxA) (ctxA_okT _) rfl rfl (ru_outb _ _ _) hw
theorem out_c (h0 : -1073741824 ≤ a) (h1 : a ≤ 1073741823) (h : b < -1073741824) : Calls Tryz.prog 3 #[.int .i64 x, .int .i64 a, .int .i64 b] w fun e w' => e = .returned (.bool true) ∧ Below w.heap.size w w' :=
  done ⟨at' (vals x a b 0 0), outc, [], (by
    intro e he
    simp only [outc, List.mem_cons, List.not_mem_nil, or_false] at he
    rcases he with rfl | rfl | rfl
    · show (numC .lss).run (.int .i64 a) (.int .i64 (-1073741824)) = some (.bool false)
      rw [nb_lss, decide_eq_false (by omega)]
    · show (numC .gtr).run (.int .i64 a) (.int .i64 1073741823) = some (.bool false)
      rw [nb_gtr, decide_eq_false (by omega)]
    · show (numC .lss).run (.int .i64 b) (.int .i64 (-1073741824)) = some (.bool true)
      rw [nb_lss, decide_eq_true (by omega)]), fair_nil⟩ (C := ctxA) (ctxA_okT _) rfl rfl (ru_outc _ _ _) hw
theorem out_d (h0 : -1073741824 ≤ a) (h1 : a ≤ 1073741823) (h2 : -1073741824 ≤ b) (h : 1073741823 < b) : Calls Tryz.prog 3 #[.int .i64 x, .int .i64 a, .int .i64 b] w fun e w' => e = .returned (.bool true) ∧ Below w.heap.size w w' :=
  done ⟨at' (vals x a b 0 0), outd, [], (by
    intro e he
    simp only [outd, List.mem_cons, List.not_mem_nil, or_false] at he
    rcases he with rfl | rfl | rfl | rfl
    · show (numC .lss).run (.int .i64 a) (.int .i64 (-1073741824)) = some (.bool false)
      rw [nb_lss, decide_eq_false (by omega)]
    · show (numC .gtr).run (.int .i64 a) (.int .i64 1073741823) = some (.bool false)
      rw [nb_gtr, decide_eq_false (by omega)]
    · show (numC .lss).run (.int .i64 b) (.int .i64 (-1073741824)) = some (.bool false)
      rw [nb_lss, decide_eq_false (by omega)]
    · show (numC .gtr).run (.int .i64 b) (.int .i64 1073741823) = some (.bool true)
      rw [nb_gtr, decide_eq_true (by omega)]), fair_nil⟩ (C := ctxA) (ctxA_okT _) rfl rfl (ru_outd _ _ _) hw
theorem in_add0 (hr : x.tmod 8 = 0) (h1 : -1073741824 ≤ a) (h2 : a ≤ 1073741823) (h3 : -1073741824 ≤ b) (h4 : b ≤ 1073741823) : Calls Tryz.prog 3 #[.int .i64 x, .int .i64 a, .int .i64 b] w fun e w' => e = .returned (.bool true) ∧ Below w.heap.size w w' :=
  done ⟨at' (vals x a b (IntKind.i64.wrap (a + b)) (0)), base (0) ++ arith .add, arithC, both (fine_base rfl hr h1 h2 h3 h4) (fine_arith rfl (nb_add a b) (by rw [IntWalk.i64_in _ (by omega)]; omega) (by rw [IntWalk.i64_in _ (by omega)]; omega)), fair_arith rfl⟩ (cx_add_ok _ _ _ _) rfl rfl (ru_add0 _ _ _) hw
theorem in_sub0 (hr : x.tmod 8 = 1) (h1 : -1073741824 ≤ a) (h2 : a ≤ 1073741823) (h3 : -1073741824 ≤ b) (h4 : b ≤ 1073741823) : Calls Tryz.prog 3 #[.int .i64 x, .int .i64 a, .int .i64 b] w fun e w' => e = .returned (.bool true) ∧ Below w.heap.size w w' :=
  done ⟨at' (vals x a b (IntKind.i64.wrap (a - b)) (0)), base (1) ++ arith .sub, arithC, both (fine_base rfl hr h1 h2 h3 h4) (fine_arith rfl (nb_sub a b) (by rw [IntWalk.i64_in _ (by omega)]; omega) (by rw [IntWalk.i64_in _ (by omega)]; omega)), fair_arith rfl⟩ (cx_sub_ok _ _ _ _) rfl rfl (ru_sub0 _ _ _) hw
theorem in_sub1 (hr : x.tmod 8 = (-7)) (h1 : -1073741824 ≤ a) (h2 : a ≤ 1073741823) (h3 : -1073741824 ≤ b) (h4 : b ≤ 1073741823) : Calls Tryz.prog 3 #[.int .i64 x, .int .i64 a, .int .i64 b] w fun e w' => e = .returned (.bool true) ∧ Below w.heap.size w w' :=
  done ⟨at' (vals x a b (IntKind.i64.wrap (a - b)) (0)), base (-7) ++ arith .sub, arithC, both (fine_base rfl hr h1 h2 h3 h4) (fine_arith rfl (nb_sub a b) (by rw [IntWalk.i64_in _ (by omega)]; omega) (by rw [IntWalk.i64_in _ (by omega)]; omega)), fair_arith rfl⟩ (cx_sub_ok _ _ _ _) rfl rfl (ru_sub1 _ _ _) hw
theorem in_mul0 (hr : x.tmod 8 = 2) (h1 : -1073741824 ≤ a) (h2 : a ≤ 1073741823) (h3 : -1073741824 ≤ b) (h4 : b ≤ 1073741823) : Calls Tryz.prog 3 #[.int .i64 x, .int .i64 a, .int .i64 b] w fun e w' => e = .returned (.bool true) ∧ Below w.heap.size w w' :=
  done ⟨at' (vals x a b (IntKind.i64.wrap (a * b)) (0)), base (2) ++ arith .mul, arithC, both (fine_base rfl hr h1 h2 h3 h4) (fine_arith rfl (nb_mul a b) (by have := mul_in h1 h2 h3 h4; rw [IntWalk.i64_in _ (by omega)]; omega) (by have := mul_in h1 h2 h3 h4; rw [IntWalk.i64_in _ (by omega)]; omega)), fair_arith rfl⟩ (cx_mul_ok _ _ _ _) rfl rfl (ru_mul0 _ _ _) hw
theorem in_mul1 (hr : x.tmod 8 = (-6)) (h1 : -1073741824 ≤ a) (h2 : a ≤ 1073741823) (h3 : -1073741824 ≤ b) (h4 : b ≤ 1073741823) : Calls Tryz.prog 3 #[.int .i64 x, .int .i64 a, .int .i64 b] w fun e w' => e = .returned (.bool true) ∧ Below w.heap.size w w' :=
  done ⟨at' (vals x a b (IntKind.i64.wrap (a * b)) (0)), base (-6) ++ arith .mul, arithC, both (fine_base rfl hr h1 h2 h3 h4) (fine_arith rfl (nb_mul a b) (by have := mul_in h1 h2 h3 h4; rw [IntWalk.i64_in _ (by omega)]; omega) (by have := mul_in h1 h2 h3 h4; rw [IntWalk.i64_in _ (by omega)]; omega)), fair_arith rfl⟩ (cx_mul_ok _ _ _ _) rfl rfl (ru_mul1 _ _ _) hw
theorem in_quo0 (hr : x.tmod 8 = 3) (h1 : -1073741824 ≤ a) (h2 : a ≤ 1073741823) (h3 : -1073741824 ≤ b) (h4 : b ≤ 1073741823) (hb : b ≠ 0) : Calls Tryz.prog 3 #[.int .i64 x, .int .i64 a, .int .i64 b] w fun e w' => e = .returned (.bool true) ∧ Below w.heap.size w w' :=
  done ⟨at' (vals x a b (IntKind.i64.wrap (a.tdiv b)) (0)), base (3) ++ (zer false ++ arith .quo), arithC, both (fine_base rfl hr h1 h2 h3 h4) (both (fine_zer rfl (decide_eq_false hb)) (fine_arith rfl (nb_quo hb) (by have := quo_in (b := b) h1 h2; rw [IntWalk.i64_in _ (by omega)]; omega) (by have := quo_in (b := b) h1 h2; rw [IntWalk.i64_in _ (by omega)]; omega))), fair_arith rfl⟩ (cx_quo_ok _ _ _ _) rfl rfl (ru_quo0 _ _ _) hw
theorem in_quo1 (hr : x.tmod 8 = (-5)) (h1 : -1073741824 ≤ a) (h2 : a ≤ 1073741823) (h3 : -1073741824 ≤ b) (h4 : b ≤ 1073741823) (hb : b ≠ 0) : Calls Tryz.prog 3 #[.int .i64 x, .int .i64 a, .int .i64 b] w fun e w' => e = .returned (.bool true) ∧ Below w.heap.size w w' :=
  done ⟨at' (vals x a b (IntKind.i64.wrap (a.tdiv b)) (0)), base (-5) ++ (zer false ++ arith .quo), arithC, both (fine_base rfl hr h1 h2 h3 h4) (both (fine_zer rfl (decide_eq_false hb)) (fine_arith rfl (nb_quo hb) (by have := quo_in (b := b) h1 h2; rw [IntWalk.i64_in _ (by omega)]; omega) (by have := quo_in (b := b) h1 h2; rw [IntWalk.i64_in _ (by omega)]; omega))), fair_arith rfl⟩ (cx_quo_ok _ _ _ _) rfl rfl (ru_quo1 _ _ _) hw
theorem in_rem0 (hr : x.tmod 8 = 4) (h1 : -1073741824 ≤ a) (h2 : a ≤ 1073741823) (h3 : -1073741824 ≤ b) (h4 : b ≤ 1073741823) (hb : b ≠ 0) : Calls Tryz.prog 3 #[.int .i64 x, .int .i64 a, .int .i64 b] w fun e w' => e = .returned (.bool true) ∧ Below w.heap.size w w' :=
  done ⟨at' (vals x a b (a.tmod b) (IntKind.i64.wrap (a.tdiv b))), base (4) ++ (zer false ++ modu), arithC, both (fine_base rfl hr h1 h2 h3 h4) (both (fine_zer rfl (decide_eq_false hb)) (fine_modu rfl (nb_rem hb) (nb_quo hb) (by have := rem_in (b := b) h1 h2; omega) (by have := rem_in (b := b) h1 h2; omega))), fair_arith rfl⟩ (cx_rem_ok _ _ _ _) rfl rfl (ru_rem0 _ _ _) hw
theorem in_rem1 (hr : x.tmod 8 = (-4)) (h1 : -1073741824 ≤ a) (h2 : a ≤ 1073741823) (h3 : -1073741824 ≤ b) (h4 : b ≤ 1073741823) (hb : b ≠ 0) : Calls Tryz.prog 3 #[.int .i64 x, .int .i64 a, .int .i64 b] w fun e w' => e = .returned (.bool true) ∧ Below w.heap.size w w' :=
  done ⟨at' (vals x a b (a.tmod b) (IntKind.i64.wrap (a.tdiv b))), base (-4) ++ (zer false ++ modu), arithC, both (fine_base rfl hr h1 h2 h3 h4) (both (fine_zer rfl (decide_eq_false hb)) (fine_modu rfl (nb_rem hb) (nb_quo hb) (by have := rem_in (b := b) h1 h2; omega) (by have := rem_in (b := b) h1 h2; omega))), fair_arith rfl⟩ (cx_rem_ok _ _ _ _) rfl rfl (ru_rem1 _ _ _) hw
theorem in_quo00 (hr : x.tmod 8 = 3) (h1 : -1073741824 ≤ a) (h2 : a ≤ 1073741823) (h3 : -1073741824 ≤ b) (h4 : b ≤ 1073741823) (hb : b = 0) : Calls Tryz.prog 3 #[.int .i64 x, .int .i64 a, .int .i64 b] w fun e w' => e = .returned (.bool true) ∧ Below w.heap.size w w' :=
  done ⟨at' (vals x a b (0) (0)), base (3) ++ zer true, [], both (fine_base rfl hr h1 h2 h3 h4) (fine_zer rfl (decide_eq_true hb)), fair_nil⟩ (cx_quo0_ok _ _ _ _) rfl rfl (ru_quo00 _ _ _) hw
theorem in_quo01 (hr : x.tmod 8 = (-5)) (h1 : -1073741824 ≤ a) (h2 : a ≤ 1073741823) (h3 : -1073741824 ≤ b) (h4 : b ≤ 1073741823) (hb : b = 0) : Calls Tryz.prog 3 #[.int .i64 x, .int .i64 a, .int .i64 b] w fun e w' => e = .returned (.bool true) ∧ Below w.heap.size w w' :=
  done ⟨at' (vals x a b (0) (0)), base (-5) ++ zer true, [], both (fine_base rfl hr h1 h2 h3 h4) (fine_zer rfl (decide_eq_true hb)), fair_nil⟩ (cx_quo0_ok _ _ _ _) rfl rfl (ru_quo01 _ _ _) hw
theorem in_rem00 (hr : x.tmod 8 = 4) (h1 : -1073741824 ≤ a) (h2 : a ≤ 1073741823) (h3 : -1073741824 ≤ b) (h4 : b ≤ 1073741823) (hb : b = 0) : Calls Tryz.prog 3 #[.int .i64 x, .int .i64 a, .int .i64 b] w fun e w' => e = .returned (.bool true) ∧ Below w.heap.size w w' :=
  done ⟨at' (vals x a b (0) (0)), base (4) ++ zer true, [], both (fine_base rfl hr h1 h2 h3 h4) (fine_zer rfl (decide_eq_true hb)), fair_nil⟩ (cx_rem0_ok _ _ _ _) rfl rfl (ru_rem00 _ _ _) hw
theorem in_rem01 (hr : x.tmod 8 = (-4)) (h1 : -1073741824 ≤ a) (h2 : a ≤ 1073741823) (h3 : -1073741824 ≤ b) (h4 : b ≤ 1073741823) (hb : b = 0) : Calls Tryz.prog 3 #[.int .i64 x, .int .i64 a, .int .i64 b] w fun e w' => e = .returned (.bool true) ∧ Below w.heap.size w w' :=
  done ⟨at' (vals x a b (0) (0)), base (-4) ++ zer true, [], both (fine_base rfl hr h1 h2 h3 h4) (fine_zer rfl (decide_eq_true hb)), fair_nil⟩ (cx_rem0_ok _ _ _ _) rfl rfl (ru_rem01 _ _ _) hw
theorem in_eqT0 (hr : x.tmod 8 = 5) (h1 : -1073741824 ≤ a) (h2 : a ≤ 1073741823) (h3 : -1073741824 ≤ b) (h4 : b ≤ 1073741823) (hb : a = b) : Calls Tryz.prog 3 #[.int .i64 x, .int .i64 a, .int .i64 b] w fun e w' => e = .returned (.bool true) ∧ Below w.heap.size w w' :=
  done ⟨at' (vals x a b (0) (0)), base (5) ++ cmp .eql true, [], both (fine_base rfl hr h1 h2 h3 h4) (fine_cmp rfl (by rw [nb_eql, decide_eq_true hb])), fair_nil⟩ (cx_eqT_ok _ _ _ _) rfl rfl (ru_eqT0 _ _ _) hw
theorem in_eqT1 (hr : x.tmod 8 = (-3)) (h1 : -1073741824 ≤ a) (h2 : a ≤ 1073741823) (h3 : -1073741824 ≤ b) (h4 : b ≤ 1073741823) (hb : a = b) : Calls Tryz.prog 3 #[.int .i64 x, .int .i64 a, .int .i64 b] w fun e w' => e = .returned (.bool true) ∧ Below w.heap.size w w' :=
  done ⟨at' (vals x a b (0) (0)), base (-3) ++ cmp .eql true, [], both (fine_base rfl hr h1 h2 h3 h4) (fine_cmp rfl (by rw [nb_eql, decide_eq_true hb])), fair_nil⟩ (cx_eqT_ok _ _ _ _) rfl rfl (ru_eqT1 _ _ _) hw
theorem in_eqF0 (hr : x.tmod 8 = 5) (h1 : -1073741824 ≤ a) (h2 : a ≤ 1073741823) (h3 : -1073741824 ≤ b) (h4 : b ≤ 1073741823) (hb : ¬ a = b) : Calls Tryz.prog 3 #[.int .i64 x, .int .i64 a, .int .i64 b] w fun e w' => e = .returned (.bool true) ∧ Below w.heap.size w w' :=
  done ⟨at' (vals x a b (0) (0)), base (5) ++ cmp .eql false, [], both (fine_base rfl hr h1 h2 h3 h4) (fine_cmp rfl (by rw [nb_eql, decide_eq_false hb])), fair_nil⟩ (cx_eqF_ok _ _ _ _) rfl rfl (ru_eqF0 _ _ _) hw
theorem in_eqF1 (hr : x.tmod 8 = (-3)) (h1 : -1073741824 ≤ a) (h2 : a ≤ 1073741823) (h3 : -1073741824 ≤ b) (h4 : b ≤ 1073741823) (hb : ¬ a = b) : Calls Tryz.prog 3 #[.int .i64 x, .int .i64 a, .int .i64 b] w fun e w' => e = .returned (.bool true) ∧ Below w.heap.size w w' :=
  done ⟨at' (vals x a b (0) (0)), base (-3) ++ cmp .eql false, [], both (fine_base rfl hr h1 h2 h3 h4) (fine_cmp rfl (by rw [nb_eql, decide_eq_false hb])), fair_nil⟩ (cx_eqF_ok _ _ _ _) rfl rfl (ru_eqF1 _ _ _) hw
theorem in_ltT0 (hr : x.tmod 8 = 6) (h1 : -1073741824 ≤ a) (h2 : a ≤ 1073741823) (h3 : -1073741824 ≤ b) (h4 : b ≤ 1073741823) (hb : a < b) : Calls Tryz.prog 3 #[.int .i64 x, .int .i64 a, .int .i64 b] w fun e w' => e = .returned (.bool true) ∧ Below w.heap.size w w' :=
  done ⟨at' (vals x a b (0) (0)), base (6) ++ cmp .lss true, [], both (fine_base rfl hr h1 h2 h3 h4) (fine_cmp rfl (by rw [nb_lss, decide_eq_true hb])), fair_nil⟩ (cx_ltT_ok _ _ _ _) rfl rfl (ru_ltT0 _ _ _) hw
theorem in_ltT1 (hr : x.tmod 8 = (-2)) (h1 : -1073741824 ≤ a) (h2 : a ≤ 1073741823) (h3 : -1073741824 ≤ b) (h4 : b ≤ 1073741823) (hb : a < b) : Calls Tryz.prog 3 #[.int .i64 x, .int .i64 a, .int .i64 b] w fun e w' => e = .returned (.bool true) ∧ Below w.heap.size w w' :=
  done ⟨at' (vals x a b (0) (0)), base (-2) ++ cmp .lss true, [], both (fine_base rfl hr h1 h2 h3 h4) (fine_cmp rfl (by rw [nb_lss, decide_eq_true hb])), fair_nil⟩ (cx_ltT_ok _ _ _ _) rfl rfl (ru_ltT1 _ _ _) hw
theorem in_ltF0 (hr : x.tmod 8 = 6) (h1 : -1073741824 ≤ a) (h2 : a ≤ 1073741823) (h3 : -1073741824 ≤ b) (h4 : b ≤ 1073741823) (hb : ¬ a < b) : Calls Tryz.prog 3 #[.int .i64 x, .int .i64 a, .int .i64 b] w fun e w' => e = .returned (.bool true) ∧ Below w.heap.size w w' :=
  done ⟨at' (vals x a b (0) (0)), base (6) ++ cmp .lss false, [], both (fine_base rfl hr h1 h2 h3 h4) (fine_cmp rfl (by rw [nb_lss, decide_eq_false hb])), fair_nil⟩ (cx_ltF_ok _ _ _ _) rfl rfl (ru_ltF0 _ _ _) hw
theorem in_ltF1 (hr : x.tmod 8 = (-2)) (h1 : -1073741824 ≤ a) (h2 : a ≤ 1073741823) (h3 : -1073741824 ≤ b) (h4 : b ≤ 1073741823) (hb : ¬ a < b) : Calls Tryz.prog 3 #[.int .i64 x, .int .i64 a, .int .i64 b] w fun e w' => e = .returned (.bool true) ∧ Below w.heap.size w w' :=
  done ⟨at' (vals x a b (0) (0)), base (-2) ++ cmp .lss false, [], both (fine_base rfl hr h1 h2 h3 h4) (fine_cmp rfl (by rw [nb_lss, decide_eq_false hb])), fair_nil⟩ (cx_ltF_ok _ _ _ _) rfl rfl (ru_ltF1 _ _ _) hw
theorem in_leT0 (hr : x.tmod 8 = 7) (h1 : -1073741824 ≤ a) (h2 : a ≤ 1073741823) (h3 : -1073741824 ≤ b) (h4 : b ≤ 1073741823) (hb : a ≤ b) : Calls Tryz.prog 3 #[.int .i64 x, .int .i64 a, .int .i64 b] w fun e w' => e = .returned (.bool true) ∧ Below w.heap.size w w' :=
  done ⟨at' (vals x a b (0) (0)), base (7) ++ cmp .leq true, [], both (fine_base rfl hr h1 h2 h3 h4) (fine_cmp rfl (by rw [nb_leq, decide_eq_true hb])), fair_nil⟩ (cx_leT_ok _ _ _ _) rfl rfl (ru_leT0 _ _ _) hw
theorem in_leT1 (hr : x.tmod 8 = (-1)) (h1 : -1073741824 ≤ a) (h2 : a ≤ 1073741823) (h3 : -1073741824 ≤ b) (h4 : b ≤ 1073741823) (hb : a ≤ b) : Calls Tryz.prog 3 #[.int .i64 x, .int .i64 a, .int .i64 b] w fun e w' => e = .returned (.bool true) ∧ Below w.heap.size w w' :=
  done ⟨at' (vals x a b (0) (0)), base (-1) ++ cmp .leq true, [], both (fine_base rfl hr h1 h2 h3 h4) (fine_cmp rfl (by rw [nb_leq, decide_eq_true hb])), fair_nil⟩ (cx_leT_ok _ _ _ _) rfl rfl (ru_leT1 _ _ _) hw
theorem in_leF0 (hr : x.tmod 8 = 7) (h1 : -1073741824 ≤ a) (h2 : a ≤ 1073741823) (h3 : -1073741824 ≤ b) (h4 : b ≤ 1073741823) (hb : ¬ a ≤ b) : Calls Tryz.prog 3 #[.int .i64 x, .int .i64 a, .int .i64 b] w fun e w' => e = .returned (.bool true) ∧ Below w.heap.size w w' :=
  done ⟨at' (vals x a b (0) (0)), base (7) ++ cmp .leq false, [], both (fine_base rfl hr h1 h2 h3 h4) (fine_cmp rfl (by rw [nb_leq, decide_eq_false hb])), fair_nil⟩ (cx_leF_ok _ _ _ _) rfl rfl (ru_leF0 _ _ _) hw
theorem in_leF1 (hr : x.tmod 8 = (-1)) (h1 : -1073741824 ≤ a) (h2 : a ≤ 1073741823) (h3 : -1073741824 ≤ b) (h4 : b ≤ 1073741823) (hb : ¬ a ≤ b) : Calls Tryz.prog 3 #[.int .i64 x, .int .i64 a, .int .i64 b] w fun e w' => e = .returned (.bool true) ∧ Below w.heap.size w w' :=
  done ⟨at' (vals x a b (0) (0)), base (-1) ++ cmp .leq false, [], both (fine_base rfl hr h1 h2 h3 h4) (fine_cmp rfl (by rw [nb_leq, decide_eq_false hb])), fair_nil⟩ (cx_leF_ok _ _ _ _) rfl rfl (ru_leF1 _ _ _) hw
theorem sums_calls (x a b : Int) : Calls Tryz.prog 3 #[.int .i64 x, .int .i64 a, .int .i64 b] w fun e w' => e = .returned (.bool true) ∧ Below w.heap.size w w' := by
  by_cases h1 : -1073741824 ≤ a
  case neg => exact out_a hw (by omega)
  by_cases h2 : a ≤ 1073741823
  case neg => exact out_b hw h1 (by omega)
  by_cases h3 : -1073741824 ≤ b
  case neg => exact out_c hw h1 h2 (by omega)
  by_cases h4 : b ≤ 1073741823
  case neg => exact out_d hw h1 h2 h3 (by omega)
  have k1 : x.tmod 8 < 8 := Int.tmod_lt_of_pos _ (by omega)
  have k2 : -8 < x.tmod 8 := by
    have := Int.tmod_lt_of_pos (-x) (show (0 : Int) < 8 by omega)
    rw [Int.neg_tmod] at this
    omega
  have k3 : x.tmod 8 = 0 ∨ (x.tmod 8 = 1 ∨ x.tmod 8 = -7) ∨ (x.tmod 8 = 2 ∨ x.tmod 8 = -6) ∨ (x.tmod 8 = 3 ∨ x.tmod 8 = -5) ∨ (x.tmod 8 = 4 ∨ x.tmod 8 = -4) ∨ (x.tmod 8 = 5 ∨ x.tmod 8 = -3) ∨ (x.tmod 8 = 6 ∨ x.tmod 8 = -2) ∨ (x.tmod 8 = 7 ∨ x.tmod 8 = -1) := by omega
  rcases k3 with hr | (hr | hr) | (hr | hr) | (hr | hr) | (hr | hr) | (hr | hr) | (hr | hr) | (hr | hr)
  · exact in_add0 hw hr h1 h2 h3 h4
  · exact in_sub0 hw hr h1 h2 h3 h4
  · exact in_sub1 hw hr h1 h2 h3 h4
  · exact in_mul0 hw hr h1 h2 h3 h4
  · exact in_mul1 hw hr h1 h2 h3 h4
  · by_cases hb : b = 0
    · exact in_quo00 hw hr h1 h2 h3 h4 hb
    · exact in_quo0 hw hr h1 h2 h3 h4 hb
  · by_cases hb : b = 0
    · exact in_quo01 hw hr h1 h2 h3 h4 hb
    · exact in_quo1 hw hr h1 h2 h3 h4 hb
  · by_cases hb : b = 0
    · exact in_rem00 hw hr h1 h2 h3 h4 hb
    · exact in_rem0 hw hr h1 h2 h3 h4 hb
  · by_cases hb : b = 0
    · exact in_rem01 hw hr h1 h2 h3 h4 hb
    · exact in_rem1 hw hr h1 h2 h3 h4 hb
  · by_cases hb : a = b
    · exact in_eqT0 hw hr h1 h2 h3 h4 hb
    · exact in_eqF0 hw hr h1 h2 h3 h4 hb
  · by_cases hb : a = b
    · exact in_eqT1 hw hr h1 h2 h3 h4 hb
    · exact in_eqF1 hw hr h1 h2 h3 h4 hb
  · by_cases hb : a < b
    · exact in_ltT0 hw hr h1 h2 h3 h4 hb
    · exact in_ltF0 hw hr h1 h2 h3 h4 hb
  · by_cases hb : a < b
    · exact in_ltT1 hw hr h1 h2 h3 h4 hb
    · exact in_ltF1 hw hr h1 h2 h3 h4 hb
  · by_cases hb : a ≤ b
    · exact in_leT0 hw hr h1 h2 h3 h4 hb
    · exact in_leF0 hw hr h1 h2 h3 h4 hb
  · by_cases hb : a ≤ b
    · exact in_leT1 hw hr h1 h2 h3 h4 hb
    · exact in_leF1 hw hr h1 h2 h3 h4 hb
end
end Go.Proofs.YtpfmfpakbfkfoaaGreatDoor

/- The abstract machine and its walks (a verified interpreter of the model's code: plain definitions and lemmas, no condition). -/
import Derived.Test.YthcgccnbhdociaaDoorM3

namespace Go.Proofs.YthcgccnbhdociaaDoor.Am
open Go Go.RowKit
set_option linter.defProp false

/-! The lemmas of the walk, in bundles. -/
def wqA1 :=
  And.intro @k_nil <| And.intro @k_blk <| And.intro @k_seq <| And.intro @k_block <| And.intro @k_reg <| And.intro @k_skip <| And.intro @k_ret <| And.intro @k_exit <| And.intro @k_cret <| And.intro @k_cexit <| And.intro @k_cond <| And.intro @k_loop <| And.intro @k_draw <| And.intro @k_osnil <| And.intro @k_mv <| And.intro @kg_mv <| And.intro @k_pick <| And.intro @kg_pick <| And.intro @k_build <| And.intro @kg_build <| And.intro @k_ld1 <| And.intro @kg_ld1 <| And.intro @k_ldn <| And.intro @kg_ldn <| And.intro @k_nilck <| And.intro @kg_nilck <| And.intro @k_bin <| And.intro @kg_bin <| And.intro @k_un <| And.intro @kg_un <| And.intro @k_fn <| And.intro @kg_fn <| And.intro @k_ifc <| And.intro @kg_ifc <| And.intro @k_slstr <| And.intro @kg_slstr <| And.intro @k_sl <| And.intro @kg_sl <| And.intro @k_fa <| @kg_fa
def wqA2 :=
  And.intro @k_fld1 <| And.intro @kg_fld1 <| And.intro @k_fldn <| And.intro @kg_fldn <| And.intro @k_ia <| And.intro @kg_ia <| And.intro @k_iaa <| And.intro @kg_iaa <| And.intro @k_ixs <| And.intro @kg_ixs <| And.intro @k_ix <| And.intro @kg_ix <| And.intro @k_look <| And.intro @kg_look <| And.intro @k_ext <| And.intro @kg_ext <| And.intro @k_mn <| And.intro @kg_mn <| And.intro @k_mx <| And.intro @kg_mx <| And.intro @k_cvint <| And.intro @kg_cvint <| And.intro @k_lenslice <| And.intro @kg_lenslice <| And.intro @k_lenstr <| And.intro @kg_lenstr <| And.intro @k_lenarr <| And.intro @kg_lenarr <| And.intro @k_new <| And.intro @kg_new <| And.intro @k_box <| And.intro @kg_box <| And.intro @k_bsl <| And.intro @kg_bsl <| And.intro @k_st <| And.intro @kg_st <| And.intro @k_mksl <| And.intro @kg_mksl <| And.intro @k_upd <| @kg_upd
def wqA3 :=
  And.intro @k_mkm <| And.intro @kg_mkm <| And.intro @k_rngs <| And.intro @kg_rngs <| And.intro @k_nxt <| And.intro @kg_nxt <| And.intro @k_app <| And.intro @kg_app <| And.intro @k_copy <| And.intro @kg_copy <| And.intro @k_lenmap <| And.intro @kg_lenmap <| And.intro @k_cvbytes <| And.intro @kg_cvbytes <| And.intro @k_cvstr <| And.intro @kg_cvstr <| And.intro @k_cvoth <| And.intro @kg_cvoth <| And.intro @kg_call <| And.intro @kg_callv <| And.intro @k_call <| And.intro @k_callv <| @k_dnil
def wqB1 :=
  And.intro @sv_some <| And.intro @so_val <| And.intro @condK_tt <| And.intro @condK_ff <| And.intro @callv_func <| And.intro @rngO_str <| And.intro @bslO_some <| And.intro @boxO_true <| And.intro @orH_some <| And.intro @fill_nil <| And.intro @fill_if <| And.intro @buildO_some <| And.intro @evPs_nil <| And.intro @evPs_cons <| And.intro @pickB_bool <| And.intro @fa_ptr <| And.intro @on_tup <| And.intro @on_agg <| And.intro @lens_sl <| And.intro @lens_g <| And.intro @lens_t <| And.intro @lens_nil <| And.intro @lenst_str <| And.intro @ia_sl <| And.intro @ia_g <| And.intro @cvi_int <| And.intro @ev_t <| And.intro @ev_c <| And.intro @trim_get <| And.intro @set_get <| And.intro @set_no <| And.intro @ofL_hd <| And.intro @ofL_tl <| And.intro @opt_true <| And.intro @opt_false <| And.intro @vif_true <| And.intro @vif_false <| And.intro @bif_bool <| And.intro @bif_int <| @bif_optn
def wqB2 :=
  And.intro @bif_or <| And.intro @bif_and <| And.intro @Imp_T <| And.intro @Imp_true <| And.intro @Imp_false <| And.intro @took_bool <| And.intro @took_tuple <| And.intro @took_opt <| And.intro @isGate_bool <| And.intro @isGate_tuple <| And.intro @isGate_opt <| And.intro @k_add <| And.intro @k_sub <| And.intro @k_mul <| And.intro @k_eql <| And.intro @k_neq <| And.intro @k_lss <| And.intro @k_leq <| And.intro @k_gtr <| And.intro @k_geq <| And.intro @k_beql <| And.intro @k_bneq <| And.intro @u_not <| And.intro @u_neg <| And.intro @load1_ptr <| And.intro @loadn_ptr <| And.intro @ld1_ofL <| And.intro @ld1_ro <| And.intro @ldn_ofL <| And.intro @ldn_ro <| And.intro @store_ptr <| And.intro @lay_if <| And.intro @get_new_self <| And.intro @get_new <| And.intro @get_set <| And.intro @pa_eq <| And.intro @next_new <| And.intro @next_set <| And.intro @newCells_if <| @cells_bool
def wqB3 :=
  And.intro @one_bool <| And.intro @good_bool <| And.intro @cells_int <| And.intro @one_int <| And.intro @good_int <| And.intro @cells_str <| And.intro @one_str <| And.intro @good_str <| And.intro @cells_nilptr <| And.intro @one_nilptr <| And.intro @good_nilptr <| And.intro @cells_ptr <| And.intro @one_ptr <| And.intro @good_ptr <| And.intro @cells_slice <| And.intro @one_slice <| And.intro @good_slice <| And.intro @cells_gslice <| And.intro @one_gslice <| And.intro @good_gslice <| And.intro @cells_tslice <| And.intro @one_tslice <| And.intro @good_tslice <| And.intro @cells_nilslice <| And.intro @one_nilslice <| And.intro @good_nilslice <| And.intro @cells_nilmap <| And.intro @one_nilmap <| And.intro @good_nilmap <| And.intro @cells_map <| And.intro @one_map <| And.intro @good_map <| And.intro @cells_func <| And.intro @one_func <| And.intro @good_func <| And.intro @cells_nilfunc <| And.intro @one_nilfunc <| And.intro @good_nilfunc <| And.intro @cells_iface <| @one_iface
def wqB4 :=
  And.intro @good_iface <| And.intro @cells_nilIface <| And.intro @one_nilIface <| And.intro @good_nilIface <| And.intro @cells_agg <| And.intro @good_agg <| And.intro @good_tuple <| And.intro @leave_normal <| And.intro @leave_ret <| And.intro @leave_exit <| And.intro @beq_true <| And.intro @beq_false <| And.intro @Bool.not_true <| And.intro @Bool.not_false <| And.intro @Bool.true_and <| And.intro @Bool.and_true <| And.intro @Bool.false_and <| And.intro @Bool.and_false <| And.intro @Bool.not_not <| And.intro @V.bool.injEq <| And.intro @Nat.zero_add <| And.intro @Nat.add_zero <| And.intro @then_normal <| And.intro @then_ret <| And.intro @then_exit <| And.intro @Bool.true_eq_false <| And.intro @Bool.false_eq_true <| And.intro @toN_int <| And.intro @pushD_none <| And.intro @pushD_some <| And.intro @asks_nil <| And.intro @asks_cons <| And.intro @ask_nil <| And.intro @ask_cons <| And.intro @heapF_o <| And.intro @heapO_some <| And.intro @heapO_none <| And.intro @ask_ld1 <| And.intro @ask_ldn <| @askg_ld1
def wqB5 :=
  And.intro @askg_ldn <| And.intro @nx1 <| And.intro @xn1 <| And.intro @nx2 <| And.intro @xn2 <| And.intro @nx3 <| And.intro @xn3 <| And.intro @nx4 <| And.intro @xn4 <| And.intro @nx5 <| And.intro @xn5 <| And.intro @nx6 <| And.intro @xn6 <| And.intro @nx7 <| And.intro @xn7 <| And.intro @nx8 <| And.intro @xn8 <| And.intro @gateK_tt <| And.intro @gateK_ff <| And.intro @gateK_tf <| And.intro @gateK_ft <| And.intro @gateK_tuple <| And.intro @Bool.or_false <| And.intro @Bool.false_or <| And.intro @Bool.or_true <| And.intro @Bool.true_or <| And.intro @nil_ptr <| And.intro @mn_two <| And.intro @mx_two <| And.intro @opt_no <| And.intro @opt_so <| And.intro @add11 <| And.intro @add21 <| And.intro @add31 <| And.intro @add41 <| And.intro @add51 <| And.intro @add61 <| And.intro @add71 <| And.intro @add81 <| @add91
def wqB6 :=
  And.intro @add101 <| And.intro @add111 <| And.intro @add121 <| And.intro @add131 <| And.intro @add141 <| And.intro @add151 <| And.intro @sl_hi <| And.intro @sl_lo <| And.intro @sl_two <| And.intro @sl_all <| And.intro @s_eql <| And.intro @s_neq <| And.intro @s_add <| @s_ix
end Go.Proofs.YthcgccnbhdociaaDoor.Am

namespace Go.Proofs.YthcgccnbhdociaaDoor.Am
variable [Lay]
set_option linter.unusedSectionVars false
set_option linter.unusedVariables false
set_option linter.unusedSimpArgs false
open Go Go.RowKit

/-! One element more; bytes and texts. -/
theorem app_one {B : Nat} {h : Heap} {size : Nat} {s : V} {n : Nat} {us cs : List V} (hsz : 1 ≤ size) (H1 : SlO B h size s n us) (hB : B ≤ h.next) (hlen : (n + 1) * size ≤ top) (hcs : cs.length = size) (ho : ones cs = true) :
    ∃ v h', appV size s (.slice (pa h.next) 0 1 1) (h.new (.ofL cs 0 false)) = .val v h' ∧ SlO B h' size v (n + 1) (us ++ cs) ∧ Mod s.blk h h' ∧ h.next + 1 ≤ h'.next ∧ ∀ b, v.blk b → s.blk b ∨ h.next < unPa b := by
  have hx : Ext h (h.new (.ofL cs 0 false)) := (Ext.refl h).new _
  have hv : SlV (h.new (.ofL cs 0 false)) size (.slice (pa h.next) 0 1 1) 1 cs := by
    refine ⟨by rw [hcs]; omega, rfl, old_lt (by rw [next_new]; omega), cs, .inr ⟨0, false, by rw [get_new_self]⟩, by omega, by simp⟩
  obtain ⟨v, h', q1, q2, q3, q4⟩ := app_own hsz (H1.ext hx) hv (by rw [next_new]; omega) hlen ho
  refine ⟨v, h', q1, q2, (hx.mod _).trans q3, by have := q3.next; rw [next_new] at this; exact this, fun b hb => ?_⟩
  rcases q4 b hb with q | q
  · exact .inl q
  · exact .inr (by rw [next_new] at q; omega)

theorem uint8s_bytes : ∀ l : List UInt8, uint8s (bytesV l) = some l
  | [] => rfl
  | c :: l => by
    have ih := uint8s_bytes l
    simp only [bytesV, uint8s, ih]
    simp
theorem bytesV_len : ∀ l : List UInt8, (bytesV l).length = l.length
  | [] => rfl
  | c :: l => by simp only [bytesV, List.length_cons, bytesV_len l]
theorem bytesV_append : ∀ l m : List UInt8, bytesV (l ++ m) = bytesV l ++ bytesV m
  | [], m => rfl
  | c :: l, m => by simp only [bytesV, List.cons_append, bytesV_append l m]
theorem bytesV_ones : ∀ l : List UInt8, ones (bytesV l) = true
  | [] => rfl
  | c :: l => by
    have ih := bytesV_ones l
    simp only [bytesV, ones, ih, one_int, Bool.and_true]
theorem strAt_of {h : Heap} {b : Pa} {us : List V} {esz : Nat} {st : Bool} {off : Nat} {l : List UInt8} (hg : h.get b = .ofL us esz st) (hl : off + l.length ≤ us.length) (hu : (us.drop off).take l.length = bytesV l) : strAt b off l.length h = .val (.str l) h := by
  unfold strAt
  rw [hg]
  simp only [Blk.see, Blk.ofL]
  rw [show Nat.ble (off + l.length) us.length = true from by rw [Nat.ble_eq]; exact hl]
  simp only [cond_true]
  rw [gets_eq us l.length off hl, hu, uint8s_bytes]
theorem convStr_own {B : Nat} {h : Heap} {v : V} {n : Nat} {l : List UInt8} (H : SlO B h 1 v n (bytesV l)) : convStr.run v h = .val (.str l) h := by
  have h1 := H.1
  rw [bytesV_len, Nat.mul_one] at h1
  have h2 := H.2
  cases v <;> simp only at h2 <;> try (exact h2.elim)
  case nilslice =>
    subst h2
    rw [List.length_eq_zero_iff] at h1
    subst h1
    rfl
  case slice =>
    obtain ⟨q1, q2, q3, q4, q5, us, esz, st, q6, q7, q8⟩ := h2
    rw [bytesV_len] at q8
    simp only [convStr]
    rw [q1, ← h1]
    exact strAt_of q6 (by omega) q8
  case gslice =>
    obtain ⟨q1, q2, q3, q4, q5, us, st, q6, q7, q8⟩ := h2
    rw [bytesV_len] at q8 q7
    simp only [convStr]
    rw [q1, q4, ← h1]
    exact strAt_of q6 (by omega) (by simpa using q8)
theorem Mod.self {b : Pa} {h h' : Heap} (e : Mod (fun q => q = b) h h') (k : Blk) : Mod (fun q => q = b) h (h'.set b k) := e.set (fun _ => rfl) k
theorem Mod.fresh {M : Pa → Prop} {h h' : Heap} (e : Mod M h h') {i : Nat} (hi : h.next ≤ i) (k : Blk) : Mod M h (h'.set (pa i) k) :=
  e.set (fun q => absurd (show unPa (pa i) < h.next from q) (by rw [unPa_pa]; omega)) k
theorem Mod.then_new {M N : Pa → Prop} {h h2 h3 : Heap} (e : Mod M h h2) (q : Mod N h2 h3) (hn : ∀ b, N b → h.next ≤ unPa b) : Mod M h h3 :=
  ⟨Nat.le_trans e.next q.next, fun b ho hb => by
    rw [q.get b (e.old ho) (fun k => absurd (show unPa b < h.next from ho) (by have := hn b k; omega)), e.get b ho hb]⟩
end Go.Proofs.YthcgccnbhdociaaDoor.Am

namespace Go.Proofs.YthcgccnbhdociaaDoor.Am
variable [Lay]
set_option linter.unusedSectionVars false
set_option linter.defProp false
open Go Go.RowKit

/-! The bundles, in three. -/
def wA := And.intro @wqA1 <| And.intro @wqA2 @wqA3
def wB := And.intro @wqB1 <| And.intro @wqB2 <| And.intro @wqB3 <| And.intro @wqB4 <| And.intro @wqB5 @wqB6
def wZ := And.intro @Option.isSome_some.{0} <| And.intro @Option.getD_some.{0} <| And.intro @if_true.{1} <| And.intro @if_false.{1} <| And.intro @true_and <| And.intro @and_true <| And.intro @List.getElem?_cons_zero.{0} <| And.intro @List.getElem?_cons_succ.{0} <| And.intro @List.length_cons.{0} <| And.intro @List.length_nil.{0} <|
  And.intro @List.drop_zero.{0} <| And.intro @List.drop_succ_cons.{0} <| And.intro @List.take_succ_cons.{0} <| And.intro @List.take_zero.{0} <| And.intro @List.cons_append.{0} <| And.intro @List.nil_append.{0} <| And.intro @Option.some.injEq.{0} <| And.intro @exists_eq_left'.{1} <| And.intro @List.cons.injEq.{0} <|
  And.intro @Nat.succ_ne_zero <| And.intro @imp_T <| And.intro @imp_F <| And.intro @List.getElem?_nil.{0} <| And.intro @decide_true <| And.intro @decide_false <| And.intro @eq_self.{1} <| And.intro @not_true_eq_false <| And.intro @not_false_eq_true <| And.intro @ite_true.{1} @ite_false.{1}
end Go.Proofs.YthcgccnbhdociaaDoor.Am

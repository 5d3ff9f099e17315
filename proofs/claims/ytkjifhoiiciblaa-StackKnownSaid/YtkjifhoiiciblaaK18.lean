/- The abstract machine, part K18 (a verified interpreter of the model's code: plain definitions and lemmas, no condition). -/
import Derived.Test.YtkjifhoiiciblaaK17
namespace Go.Proofs.Ytkjifhoiiciblaa.Am
open Go Go.RowKit

/-! Equality of values. -/
theorem Pa.eqB_eq : ∀ {p q : Pa}, Pa.eqB p q = true → p = q
  | .z, .z, _ => rfl
  | .l p, .l q, h => by rw [Pa.eqB_eq (p := p) (q := q) h]
  | .r p, .r q, h => by rw [Pa.eqB_eq (p := p) (q := q) h]
  | .z, .l _, h => by cases h
  | .z, .r _, h => by cases h
  | .l _, .z, h => by cases h
  | .l _, .r _, h => by cases h
  | .r _, .z, h => by cases h
  | .r _, .l _, h => by cases h

theorem eqV1_eq {a b : V} (h : eqV1 a b = true) : a = b := by
  cases a <;> cases b <;> simp only [eqV1] at h <;> first
    | rfl
    | (cases h; done)
    | (rename_i x y; cases x <;> cases y <;> simp_all; done)
    | (rename_i k x l y
       simp only [Bool.and_eq_true] at h
       have h1 := eqKind_eq h.1
       have h2 := h.2
       rw [eqB_eq, beq_iff_eq] at h2
       rw [h1, h2]; done)
    | (rw [beqBytes_eq, beq_iff_eq] at h; rw [h]; done)
    | (simp only [Bool.and_eq_true, Nat.beq_eq] at h
       obtain ⟨h1, h2, h3, h4⟩ := h
       rw [Pa.eqB_eq h1, h2, h3, h4]; done)
    | (simp only [Bool.and_eq_true, Nat.beq_eq] at h
       rw [Pa.eqB_eq h.1, h.2]; done)
    | (rw [Pa.eqB_eq h]; done)
    | (simp only [Bool.and_eq_true, Nat.beq_eq, List.isEmpty_iff] at h
       obtain ⟨h1, h2, h3⟩ := h
       rw [h1, h2, h3]; done)
    | (simp only [Bool.and_eq_true, List.isEmpty_iff] at h
       rw [h.1, h.2]; done)

theorem eqVs_eq : ∀ {a b : List V}, eqVs a b = true → a = b
  | [], [], _ => rfl
  | [], _ :: _, h => by cases h
  | _ :: _, [], h => by cases h
  | a :: x, b :: y, h => by
    simp only [eqVs, Bool.and_eq_true] at h
    rw [eqV1_eq h.1, eqVs_eq h.2]

theorem eqV_eq {a b : V} (h : eqV a b = true) : a = b := by
  unfold eqV at h
  split at h
  · split at h
    · rw [eqVs_eq h]
    · cases h
  · exact eqV1_eq h

/-! Masks. -/
theorem bitB_eq (m i : Nat) : bitB m i = m.testBit i := by
  rw [Nat.testBit_eq_decide_div_mod_eq]
  unfold bitB
  have e : Nat.mod (Nat.shiftRight m i) 2 = m / 2 ^ i % 2 := by
    show (m >>> i) % 2 = _
    rw [Nat.shiftRight_eq_div_pow]
  rw [e, Bool.eq_iff_iff, Nat.beq_eq, decide_eq_true_eq]

theorem maskOf_bit {masks : List Nat} {i : Nat} : ∀ {es : List Edge}, bitB (maskOf masks es) i = true → ∃ e ∈ es, bindsB e = true ∧ (e.on = i ∨ bitB ((masks[e.on]?).getD 0) i = true)
  | [], h => by simp [maskOf, bitB_eq] at h
  | e :: es, h => by
    simp only [maskOf] at h
    cases hb : bindsB e with
    | false =>
      rw [hb] at h
      obtain ⟨e', h1, h2⟩ := maskOf_bit (es := es) h
      exact ⟨e', by simp [h1], h2⟩
    | true =>
      rw [hb] at h
      simp only [cond_true, bitB_eq] at h
      have h' : ((1 <<< e.on ||| (masks[e.on]?).getD 0) ||| maskOf masks es).testBit i = true := h
      rw [Nat.testBit_or, Nat.testBit_or, Bool.or_eq_true, Bool.or_eq_true] at h'
      rcases h' with (h1 | h1) | h1
      · refine ⟨e, by simp, hb, .inl ?_⟩
        rw [Nat.testBit_shiftLeft] at h1
        simp only [Bool.and_eq_true, decide_eq_true_eq] at h1
        have := h1.2
        rw [Nat.testBit_one_eq_true_iff_self_eq_zero] at this
        omega
      · exact ⟨e, by simp, hb, .inr (by rw [bitB_eq]; exact h1)⟩
      · rw [← bitB_eq] at h1
        obtain ⟨e', q1, q2⟩ := maskOf_bit (es := es) h1
        exact ⟨e', by simp [q1], q2⟩

/-- whoever is done, what it waits for is done -/
def DownP (ops : Array Oper) (L : Nat → Prop) : Prop := ∀ k o e, L k → ops[k]? = some o → e ∈ o.after.toList → bindsB e = true → L e.on

theorem masksFrom_ok {ops : Array Oper} {L : Nat → Prop} (hD : DownP ops L) : ∀ (os : List Oper) (masks : List Nat), (∀ j, os[j]? = ops[masks.length + j]?) →
    (∀ k m i, masks[k]? = some m → bitB m i = true → L k → L i) → ∀ k m i, (masksFrom masks os)[k]? = some m → bitB m i = true → L k → L i
  | [], masks, _, h, k, m, i, hk, hb, hL => h k m i hk hb hL
  | o :: os, masks, hos, h, k, m, i, hk, hb, hL => by
    simp only [masksFrom] at hk
    refine masksFrom_ok hD os (masks ++ [maskOf masks o.after.toList]) (fun j => ?_) (fun k m i hk hb hL => ?_) k m i hk hb hL
    · have := hos (j + 1)
      simp only [List.getElem?_cons_succ] at this
      rw [this]
      congr 1
      simp
      omega
    · by_cases hlt : k < masks.length
      · rw [List.getElem?_append_left hlt] at hk
        exact h k m i hk hb hL
      · rw [List.getElem?_append_right (by omega)] at hk
        have hk0 : k - masks.length = 0 := by
          cases hz : k - masks.length with
          | zero => rfl
          | succ n => rw [hz] at hk; simp at hk
        rw [hk0] at hk
        simp only [List.getElem?_cons_zero, Option.some.injEq] at hk
        subst hk
        have hko : k = masks.length := by omega
        have ho : ops[k]? = some o := by have := hos 0; simp only [List.getElem?_cons_zero, Nat.add_zero] at this; rw [hko]; exact this.symm
        obtain ⟨e, he, hbe, hor⟩ := maskOf_bit hb
        have hLe := hD k o e hL ho he hbe
        rcases hor with rfl | hor
        · exact hLe
        · cases hm : masks[e.on]? with
          | none => rw [hm] at hor; simp [bitB_eq] at hor
          | some m' => rw [hm] at hor; exact h e.on m' i hm hor hLe

theorem zipAll_get {f : Nat → Nat → Oper → Bool} : ∀ {k : Nat} {ms : List Nat} {os : List Oper}, zipAll f k ms os = true → ∀ j o, os[j]? = some o → ∃ m, ms[j]? = some m ∧ f (k + j) m o = true
  | _, _, [], _, j, o, h => by simp at h
  | _, [], _ :: _, h, _, _, _ => by cases h
  | k, m :: ms, o' :: os, h, j, o, ho => by
    simp only [zipAll, Bool.and_eq_true] at h
    cases j with
    | zero => simp only [List.getElem?_cons_zero, Option.some.injEq] at ho; subst ho; exact ⟨m, rfl, h.1⟩
    | succ j =>
      obtain ⟨m', h1, h2⟩ := zipAll_get h.2 j o (by simpa using ho)
      exact ⟨m', by simpa using h1, by rw [show k + (j + 1) = k + 1 + j from by omega]; exact h2⟩

theorem zipAll_mk {f : Nat → Nat → Oper → Bool} : ∀ {k : Nat} {ms : List Nat} {os : List Oper}, ms.length = os.length → (∀ j m o, ms[j]? = some m → os[j]? = some o → f (k + j) m o = true) → zipAll f k ms os = true
  | _, [], [], _, _ => rfl
  | _, [], _ :: _, h, _ => by simp at h
  | _, _ :: _, [], h, _ => by simp at h
  | k, m :: ms, o :: os, h, hf => by
    simp only [zipAll, Bool.and_eq_true]
    refine ⟨hf 0 m o rfl rfl, zipAll_mk (by simpa using h) fun j m' o' h1 h2 => ?_⟩
    have := hf (j + 1) m' o' (by simpa using h1) (by simpa using h2)
    rw [show k + 1 + j = k + (j + 1) from by omega]
    exact this

theorem masksFrom_length : ∀ (os : List Oper) (masks : List Nat), (masksFrom masks os).length = masks.length + os.length
  | [], masks => rfl
  | o :: os, masks => by simp [masksFrom, masksFrom_length os]; omega

section
variable {P : Program}

/-! What only looks leaves the memory; what does not even look gives the same everywhere. -/
theorem cop_quiet {o : Oper} {call : CallF} {r : Regs} {h h' : Heap} {v : V} (hq : isEff P o.op = false) (he : (cop P o).run call r h = .val v h') : h' = h := by
  obtain ⟨dst, op, type, pos, after, guard⟩ := o
  cases op <;> simp only [isEff] at hq <;> try (cases hq; done)
  all_goals simp only [cop] at he
  case convert s d x =>
    unfold convC at he
    cases hs : tiOf P s with
    | none => rw [hs] at he; cases he
    | some si =>
      cases hd : tiOf P d with
      | none => rw [hd] at hq; cases hq
      | some di =>
        rw [hs, hd] at he
        rw [hd] at hq
        simp only at he hq
        cases hu : di.und with
        | int k =>
          rw [hu] at he
          obtain ⟨k', n, _, h1⟩ := onInt_val he
          simp only [OR.val.injEq] at h1
          exact h1.2.symm
        | slice e => rw [hu] at hq; cases hq
        | string =>
          rw [hu] at he
          simp only at he
          have other : ∀ x : V, (match x with
              | .str s => OR.val (.str s) h
              | .int _ n => .val (.str (Utf8.encode n).data.toList) h
              | _ => .fail) = .val v h' → h' = h := by
            intro x he
            cases x <;> simp only at he <;> first
              | (cases he; done)
              | (simp only [OR.val.injEq] at he; exact he.2.symm)
          cases hsu : si.und with
          | slice e =>
            rw [hsu] at he
            simp only at he
            cases hte : tiOf P e with
            | none => rw [hte] at he; cases he
            | some ei =>
              rw [hte] at he
              simp only at he
              have strq : ∀ b off len, strAt b off len h = .val v h' → h' = h := by
                intro b off len he
                unfold strAt at he
                cases hg : h.get b <;> rw [hg] at he <;> simp only [Blk.see] at he <;> try (cases he; done)
                all_goals
                  obtain ⟨_, h2⟩ := cond_val he
                  cases hu8 : uint8s (gets _ off len) <;> rw [hu8] at h2 <;> first
                    | (cases h2; done)
                    | (simp only [OR.val.injEq] at h2; exact h2.2.symm)
              cases hei : ei.und with
              | int ke =>
                rw [hei] at he
                cases ke <;> simp only at he <;> try (cases he; done)
                simp only [convStr] at he
                cases hx : (evC x).run r <;> rw [hx] at he <;> simp only at he <;> first
                  | (cases he; done)
                  | exact strq _ _ _ he
                  | (simp only [OR.val.injEq] at he; exact he.2.symm)
              | _ => rw [hei] at he; cases he
          | _ => rw [hsu] at he; exact other _ he
        | _ => rw [hu] at he; cases he
  case call c =>
    obtain ⟨callee, args, types⟩ := c
    cases callee <;> simp only at hq <;> try (cases hq; done)
    rename_i b
    simp only [callC] at he
    cases b <;> simp only at hq <;> try (cases hq; done)
    · simp only [builtC] at he
      cases hts : types.toList with
      | nil => rw [hts] at he; simp [BuiltC.none] at he
      | cons t ts =>
        cases ts with
        | cons _ _ => rw [hts] at he; simp [BuiltC.none] at he
        | nil =>
          rw [hts] at he
          simp only at he
          cases ht : tiOf P t with
          | none => rw [ht] at he; simp [BuiltC.none] at he
          | some ti =>
            rw [ht] at he
            simp only at he
            split at he
            · exact (OR.of_val he).2
            · cases he
    · exact (OR.of_val he).2
    · exact (OR.of_val he).2
  case move => simp only [OR.val.injEq] at he; exact he.2.symm
  case assign => simp only [OR.val.injEq] at he; exact he.2.symm
  case pick c a b =>
    split at he
    · simp only [OR.val.injEq] at he; exact he.2.symm
    · cases he
  case makeFunc fn first caps =>
    cases fn <;> simp only at he <;> try (simp [OpC.none] at he; done)
    cases hf : first.isEmpty <;> rw [hf] at he
    · simp [OpC.none] at he
    · simp only [cond_true, OR.val.injEq] at he; exact he.2.symm
  case makeInterface t x =>
    cases ht : tiOf P t with
    | none => rw [ht] at he; simp [OpC.none] at he
    | some ti =>
      rw [ht] at he
      simp only at he
      cases hb : Nat.beq (nilKindD ti.und) 5 <;> rw [hb] at he
      · simp only [cond_false, OR.val.injEq] at he; exact he.2.symm
      · simp [OpC.none] at he
  case extract x i =>
    split at he
    · exact (OR.of_val he).2
    · cases he
  all_goals exact (OR.of_val he).2

theorem OR.of_any {h h' : Heap} {x : Option V} {v : V} (he : OR.of h x = .val v h') (H : Heap) : OR.of H x = .val v H := by
  rw [(OR.of_val he).1]; rfl

theorem cop_pure {o : Oper} {call : CallF} {r : Regs} {h h' : Heap} {v : V} (hq : isEff P o.op = false) (hl : looks o.op = false) (he : (cop P o).run call r h = .val v h') (H : Heap) : (cop P o).run call r H = .val v H := by
  obtain ⟨dst, op, type, pos, after, guard⟩ := o
  cases op <;> simp only [isEff] at hq <;> try (cases hq; done)
  all_goals simp only [looks] at hl <;> try (cases hl; done)
  all_goals simp only [cop] at he ⊢
  case call c =>
    obtain ⟨callee, args, types⟩ := c
    cases callee <;> simp only at hq <;> try (cases hq; done)
    rename_i b
    simp only [callC] at he ⊢
    cases b <;> simp only at hq <;> try (cases hq; done)
    · simp only [builtC] at he ⊢
      cases hts : types.toList with
      | nil => rw [hts] at he; simp [BuiltC.none] at he
      | cons t ts =>
        cases ts with
        | cons _ _ => rw [hts] at he; simp [BuiltC.none] at he
        | nil =>
          rw [hts] at he
          simp only at he ⊢
          cases ht : tiOf P t with
          | none => rw [ht] at he; simp [BuiltC.none] at he
          | some ti =>
            rw [ht] at he
            simp only at he ⊢
            split at he
            · exact OR.of_any he H
            · cases he
    · exact OR.of_any he H
    · exact OR.of_any he H
  case move => simp only [OR.val.injEq] at he; rw [he.1]
  case assign => simp only [OR.val.injEq] at he; rw [he.1]
  case pick c a b =>
    split at he
    · simp only [OR.val.injEq] at he; rw [he.1]
    · cases he
  case makeFunc fn first caps =>
    cases fn <;> simp only at he ⊢ <;> try (simp [OpC.none] at he; done)
    cases hf : first.isEmpty <;> rw [hf] at he
    · simp [OpC.none] at he
    · simp only [cond_true, OR.val.injEq] at he ⊢; exact ⟨he.1, trivial⟩
  case makeInterface t x =>
    cases ht : tiOf P t with
    | none => rw [ht] at he; simp [OpC.none] at he
    | some ti =>
      rw [ht] at he
      simp only at he ⊢
      cases hb : Nat.beq (nilKindD ti.und) 5 <;> rw [hb] at he
      · simp only [cond_false, OR.val.injEq] at he ⊢; exact ⟨he.1, trivial⟩
      · simp [OpC.none] at he
  case extract x i =>
    split at he
    · exact OR.of_any he H
    · cases he
  all_goals exact OR.of_any he H
end
end Go.Proofs.Ytkjifhoiiciblaa.Am

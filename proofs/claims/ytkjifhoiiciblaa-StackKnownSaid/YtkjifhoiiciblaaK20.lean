/- The abstract machine, part K20 (a verified interpreter of the model's code: plain definitions and lemmas, no condition). -/
import Derived.Test.YtkjifhoiiciblaaK19
namespace Go.Proofs.Ytkjifhoiiciblaa.Am
open Go Go.RowKit

theorem countP_lt {α : Type} (p q : α → Bool) : ∀ (l : List α), (∀ x ∈ l, q x = true → p x = true) → (∃ x ∈ l, p x = true ∧ q x = false) → l.countP q < l.countP p
  | [], _, h => by obtain ⟨x, hx, _⟩ := h; simp at hx
  | a :: l, h1, h2 => by
    have hle : l.countP q ≤ l.countP p := List.countP_mono_left fun x hx => h1 x (by simp [hx])
    obtain ⟨x, hx, hp, hq⟩ := h2
    simp only [List.mem_cons] at hx
    rcases hx with rfl | hx
    · rw [List.countP_cons, List.countP_cons, hp, hq]
      simp
      omega
    · have ih := countP_lt p q l (fun y hy => h1 y (by simp [hy])) ⟨x, hx, hp, hq⟩
      have ha := h1 a (by simp)
      rw [List.countP_cons, List.countP_cons]
      cases hqa : q a with
      | true => rw [ha hqa]; simp; omega
      | false => simp; omega

theorem binds_eq (e : Edge) : Region.binds .any e = bindsB e := by
  unfold Region.binds bindsB
  cases e.ground <;> rfl

section
variable {P : Program}

/-- what is known of a drawn region that has been run in the text's order -/
structure Cert (P : Program) (nt : Nat) (ops : Array Oper) (call : CallF) (es : List Ent) (r0 : Regs) (h0 : Heap) (rf : Regs) (hf : Heap) (starts : List Nat) : Prop where
  len : es.length = ops.size
  h0 : heapAt es hf 0 = h0
  r0 : regAt es rf 0 = r0
  step : ∀ j o, ops[j]? = some o → ∃ e, es[j]? = some e ∧ (dopC P nt ops o).run call e.r e.h = .val e.v (heapAt es hf (j + 1)) ∧ regAt es rf (j + 1) = (putC o.dst).run e.r e.v
  fine : drawFine P ops = true
  zero : 0 ∈ starts
  mem : ∀ j o, ops[j]? = some o → isEff P o.op = true → j + 1 ∈ starts
  ask : ∀ j o, ops[j]? = some o → looks o.op = true → isEff P o.op = false → ∃ e, es[j]? = some e ∧ ∀ s ∈ starts,
    mayStand P (masksFrom [] ops.toList) ops.toList j (((masksFrom [] ops.toList)[j]?).getD 0) s = true → ∃ h', (dopC P nt ops o).run call e.r (heapAt es hf s) = .val e.v h'

variable {nt : Nat} {ops : Array Oper} {call : CallF} {es : List Ent} {r0 : Regs} {h0 : Heap} {rf : Regs} {hf : Heap} {starts : List Nat}

theorem Cert.fineAt (C : Cert P nt ops call es r0 h0 rf hf starts) {i : Nat} {o : Oper} (hi : ops[i]? = some o) : ∃ mi, (masksFrom [] ops.toList)[i]? = some mi ∧ onFine i o = true ∧
    ∀ k ok, ops[k]? = some ok → ∃ mk, (masksFrom [] ops.toList)[k]? = some mk ∧ pairFine i mi (readsOf ops o) o.dst k mk ok = true ∧ (isEff P o.op = true → isEff P ok.op = true → k < i → bitB mi k = true) := by
  have hf := C.fine
  unfold drawFine at hf
  obtain ⟨mi, h1, h2⟩ := zipAll_get hf i o (by simpa using hi)
  simp only [Nat.zero_add, Bool.and_eq_true] at h2
  refine ⟨mi, h1, h2.1, fun k ok hk => ?_⟩
  obtain ⟨mk, k1, k2⟩ := zipAll_get h2.2 k ok (by simpa using hk)
  simp only [Nat.zero_add, Bool.and_eq_true] at k2
  refine ⟨mk, k1, k2.1, fun e1 e2 hlt => ?_⟩
  have k3 := k2.2
  rw [e1, e2, Bool.true_and, show Nat.blt k i = true from by rw [Nat.blt_eq]; exact hlt] at k3
  exact k3

/-- the registers ahead of operation i -/
theorem Cert.regs (C : Cert P nt ops call es r0 h0 rf hf starts) : ∀ i, i ≤ ops.size → ∀ t, t ≤ top →
    (∃ k o e, k < i ∧ ops[k]? = some o ∧ o.dst = some t ∧ es[k]? = some e ∧ T.get .bad (pa t) (regAt es rf i) = e.v) ∨
    ((∀ k o, k < i → ops[k]? = some o → o.dst ≠ some t) ∧ T.get .bad (pa t) (regAt es rf i) = T.get .bad (pa t) r0)
  | 0, _, t, ht => .inr ⟨fun k o h => by omega, by rw [C.r0]⟩
  | i + 1, hi, t, ht => by
    have hlt : i < ops.size := by omega
    obtain ⟨e, h1, h2, h3⟩ := C.step i ops[i] (Array.getElem?_eq_getElem hlt)
    have hio : ops[i]? = some ops[i] := Array.getElem?_eq_getElem hlt
    have hreg : regAt es rf i = e.r := by simp [regAt, h1]
    have hput := get_put_dst (r := e.r) (v := e.v) (dopC_fine h2).1 ht
    rw [h3, hput]
    by_cases hd : ops[i].dst = some t
    · rw [if_pos hd]
      exact .inl ⟨i, _, e, by omega, hio, hd, h1, rfl⟩
    · rw [if_neg hd, ← hreg]
      rcases Cert.regs C i (by omega) t ht with ⟨k, o, e', q1, q2, q3, q4, q5⟩ | ⟨q1, q2⟩
      · exact .inl ⟨k, o, e', by omega, q2, q3, q4, q5⟩
      · refine .inr ⟨fun k o hk ho => ?_, q2⟩
        by_cases hki : k = i
        · subst hki; rw [hio] at ho; cases ho; exact hd
        · exact q1 k o (by omega) ho

/-- the heap does not turn where nothing that may turn it stands -/
theorem Cert.heaps (C : Cert P nt ops call es r0 h0 rf hf starts) (s : Nat) : ∀ d, s + d ≤ ops.size → (∀ k o, s ≤ k → k < s + d → ops[k]? = some o → isEff P o.op = false) → heapAt es hf (s + d) = heapAt es hf s
  | 0, _, _ => rfl
  | d + 1, hd, hq => by
    have hlt : s + d < ops.size := by omega
    have hio : ops[s + d]? = some ops[s + d] := Array.getElem?_eq_getElem hlt
    obtain ⟨e, h1, h2, _⟩ := C.step (s + d) _ hio
    have := (dop_quiet (hq (s + d) _ (by omega) (by omega) hio) h2).1
    have he : heapAt es hf (s + d) = e.h := by simp [heapAt, h1]
    rw [show s + (d + 1) = s + d + 1 from rfl, this, ← he]
    exact Cert.heaps C s d (by omega) fun k o h1 h2 => hq k o h1 (by omega)

structure DInv (P : Program) (w0 : World) (nt : Nat) (ops : Array Oper) (es : List Ent) (r0 : Regs) (hf : Heap) (starts : List Nat) (E0 : Env) (listed : Array Bool) (a : Act) (w : World) : Prop where
  lsize : listed.size = ops.size
  size : a.tmps.size = nt
  defers : a.defers = []
  down : DownP ops fun k => listed.getD k false = true
  main : ∃ E s, E0.le E ∧ s ∈ starts ∧ s ≤ ops.size ∧ (∀ k o, ops[k]? = some o → isEff P o.op = true → (listed.getD k false = true ↔ k < s)) ∧ Sim w0 E (heapAt es hf s) w ∧
    ∀ t, t ≤ top → (∃ k o e, listed.getD k false = true ∧ ops[k]? = some o ∧ o.dst = some t ∧ es[k]? = some e ∧ Rel E e.v (a.tmps.getD t undef)) ∨
      ((∀ k o, listed.getD k false = true → ops[k]? = some o → o.dst ≠ some t) ∧ Rel E (T.get .bad (pa t) r0) (a.tmps.getD t undef))

theorem getD_iff {l : Array Bool} {i : Nat} : l.getD i false = true ↔ l[i]? = some true := by
  rw [Array.getD_eq_getD_getElem?]
  cases l[i]? with
  | none => simp
  | some b => cases b <;> simp

theorem getD_set {l : Array Bool} {i k : Nat} (hi : i < l.size) : (l.setIfInBounds i true).getD k false = true ↔ (k = i ∨ l.getD k false = true) := by
  rw [getD_iff, getD_iff, Array.getElem?_setIfInBounds]
  by_cases h : i = k
  · subst h; simp [hi]
  · have : ¬ k = i := fun e => h e.symm
    simp [h, this]

theorem draw_step {w0 : World} (hN : NamesOk P) (hcall : CallOk P w0 call) (hbody : CallBody P call) (C : Cert P nt ops call es r0 h0 rf hf starts) {E0 : Env} {listed : Array Bool} {a : Act} {w : World} (I : DInv P w0 nt ops es r0 hf starts E0 listed a w)
    {i : Nat} (hi : i ∈ Region.ready .any ops listed) {Q : Exit → Act → World → Prop} {K : Act → World → Prop} (hK : ∀ a' w', DInv P w0 nt ops es r0 hf starts E0 (listed.setIfInBounds i true) a' w' → K a' w') : wpOp P ops Q i K a w := by
  rw [mem_ready] at hi
  obtain ⟨E, s, hE, hs, hsn, hlev, hsim, hregs⟩ := I.main
  obtain ⟨hnl, o, hio, hedges⟩ := hi
  have hin : i < ops.size := (Array.getElem?_eq_some_iff.1 hio).1
  have hnot : ¬ listed.getD i false = true := by
    rw [getD_iff]
    intro h
    rw [Array.getD_eq_getD_getElem?, h] at hnl
    simp at hnl
  have hmask := masksFrom_ok I.down ops.toList [] (fun j => by simp) (fun k m j hk => by simp at hk)
  have hD' : DownP ops fun k => listed.getD k false = true ∨ k = i := by
    intro k ok e hk hok he hb
    rcases hk with hk | rfl
    · exact .inl (I.down k ok e hk hok he hb)
    · rw [hio] at hok; cases hok
      exact .inl (hedges e (Array.mem_toList_iff.1 he) (by rw [binds_eq]; exact hb))
  have hmask' := masksFrom_ok hD' ops.toList [] (fun j => by simp) (fun k m j hk => by simp at hk)
  obtain ⟨mi, hmi, hon, hpair⟩ := C.fineAt hio
  have hbit : ∀ k, k ≠ i → bitB mi k = true → listed.getD k false = true := by
    intro k hk hb
    rcases hmask' i mi k hmi hb (.inr rfl) with h | h
    · exact h
    · exact absurd h hk
  obtain ⟨e, hes, hrun, hregn⟩ := C.step i o hio
  have hfine := dopC_fine hrun
  have hei : regAt es rf i = e.r := by simp [regAt, hes]
  have hhi : heapAt es hf i = e.h := by simp [heapAt, hes]
  -- one slot has one writer
  have uniq : ∀ (k k' : Nat) (ok ok' : Oper) (t : Nat), ops[k]? = some ok → ops[k']? = some ok' → ok.dst = some t → ok'.dst = some t → k = k' := by
    intro k k' ok ok' t h1 h2 h3 h4
    obtain ⟨mk, _, _, hp⟩ := C.fineAt h1
    obtain ⟨mk', _, hp2, _⟩ := hp k' ok' h2
    unfold pairFine at hp2
    rw [cond_beq] at hp2
    by_cases hkk : k = k'
    · exact hkk
    · rw [if_neg hkk, h4, h3] at hp2
      simp at hp2
  have reads : ∀ t ∈ readsOf ops o, Rel E (T.get .bad (pa t) e.r) (a.tmps.getD t undef) := by
    intro t ht
    have htop : t ≤ top := by
      have := List.all_eq_true.1 hfine.2 t ht
      exact Nat.le_of_ble_eq_true this
    have order : ∀ (k : Nat) (ok : Oper), k ≠ i → ops[k]? = some ok → ok.dst = some t → ∃ mk, (masksFrom [] ops.toList)[k]? = some mk ∧ (k < i → bitB mi k = true) ∧ (¬ k < i → bitB mk i = true) := by
      intro k ok hk hok hd
      obtain ⟨mk, q1, q2, _⟩ := hpair k ok hok
      refine ⟨mk, q1, ?_⟩
      unfold pairFine at q2
      rw [cond_beq, if_neg (fun e => hk e.symm), hd] at q2
      simp only [Bool.and_eq_true] at q2
      have q3 := q2.1
      rw [show (readsOf ops o).contains t = true from by simpa using ht] at q3
      simp only [cond_true] at q3
      refine ⟨fun hlt => ?_, fun hge => ?_⟩
      · rw [show Nat.blt k i = true from by rw [Nat.blt_eq]; exact hlt] at q3
        exact q3
      · rw [show Nat.blt k i = false from by rw [← Bool.not_eq_true, Nat.blt_eq]; exact hge] at q3
        exact q3
    rw [← hei]
    rcases C.regs i (by omega) t htop with ⟨k, ok, ek, q1, q2, q3, q4, q5⟩ | ⟨q1, q2⟩
    · obtain ⟨mk, _, o1, _⟩ := order k ok (by omega) q2 q3
      have hlk := hbit k (by omega) (o1 q1)
      rcases hregs t htop with ⟨k', ok', ek', p1, p2, p3, p4, p5⟩ | ⟨p1, _⟩
      · have := uniq k k' ok ok' t q2 p2 q3 p3
        subst this
        rw [q4] at p4; cases p4
        rw [q5]; exact p5
      · exact absurd q3 (p1 k ok hlk q2)
    · rcases hregs t htop with ⟨k', ok', ek', p1, p2, p3, p4, p5⟩ | ⟨_, p2⟩
      · have hki : k' ≠ i := fun e => hnot (e ▸ p1)
        obtain ⟨mk, m1, _, o2⟩ := order k' ok' hki p2 p3
        by_cases hlt : k' < i
        · exact absurd p3 (q1 k' ok' hlt p2)
        · exact absurd (hmask k' mk i m1 (o2 hlt) p1) hnot
      · rw [q2]; exact p2
  -- what stands afterwards
  have after : ∀ (s' : Nat) (E' : Env) (x : Value) (w' : World), s' ∈ starts → s' ≤ ops.size → (∀ k ok, ops[k]? = some ok → isEff P ok.op = true → ((k = i ∨ listed.getD k false = true) ↔ k < s')) → E.le E' → Rel E' e.v x → Sim w0 E' (heapAt es hf s') w' →
      DInv P w0 nt ops es r0 hf starts E0 (listed.setIfInBounds i true) (a.put o.dst x) w' := by
    intro s' E' x w' hs' hsn' hl' hle hx hsim'
    have hli : i < listed.size := by rw [I.lsize]; exact hin
    refine ⟨by simp [I.lsize], by cases h : o.dst <;> simp [Act.put, I.size], by cases h : o.dst <;> simp [Act.put, I.defers], ?_, E', s', hE.trans hle, hs', hsn', fun k ok h1 h2 => by rw [getD_set hli]; exact hl' k ok h1 h2, hsim', fun t ht => ?_⟩
    · intro k ok e' hk hok he' hb
      rw [getD_set hli] at hk ⊢
      rcases hD' k ok e' hk.symm hok he' hb with h | h
      · exact .inr h
      · exact .inl h
    · by_cases hd : o.dst = some t
      · refine .inl ⟨i, o, e, by rw [getD_set hli]; exact .inl rfl, hio, hd, hes, ?_⟩
        have hlt : t < a.tmps.size := by
          have := hfine.1
          rw [hd] at this
          simp only [dstFine, Bool.and_eq_true, Nat.blt_eq] at this
          rw [I.size]; exact this.1
        rw [hd]
        simp only [Act.put]
        rw [Array.getD_eq_getD_getElem?, Array.getElem?_setIfInBounds, if_pos rfl, if_pos hlt]
        exact hx
      · have hput : (a.put o.dst x).tmps.getD t undef = a.tmps.getD t undef := by
          cases hod : o.dst with
          | none => rfl
          | some d =>
            simp only [Act.put]
            rw [Array.getD_eq_getD_getElem?, Array.getD_eq_getD_getElem?, Array.getElem?_setIfInBounds, if_neg (fun e => hd (by rw [hod, e]))]
        rw [hput]
        rcases hregs t ht with ⟨k, ok, ek, p1, p2, p3, p4, p5⟩ | ⟨p1, p2⟩
        · exact .inl ⟨k, ok, ek, by rw [getD_set hli]; exact .inr p1, p2, p3, p4, Rel.mono hle _ _ p5⟩
        · refine .inr ⟨fun k ok hk hok => ?_, Rel.mono hle _ _ p2⟩
          rw [getD_set hli] at hk
          rcases hk with rfl | hk
          · rw [hio] at hok; cases hok; exact hd
          · exact p1 k ok hk hok
  cases heff : isEff P o.op with
  | true =>
    have hsi : s ≤ i := by
      have := hlev i o hio heff
      rcases Nat.lt_or_ge i s with h | h
      · exact absurd (this.2 h) hnot
      · exact h
    have hsame : heapAt es hf i = heapAt es hf s := by
      have := C.heaps s (i - s) (by omega) fun k ok h1 h2 hok => by
        cases hke : isEff P ok.op with
        | false => rfl
        | true =>
          obtain ⟨mk, _, _, q3⟩ := hpair k ok hok
          have := hbit k (by omega) (q3 heff hke (by omega))
          have := (hlev k ok hok hke).1 this
          omega
      rwa [show s + (i - s) = i from by omega] at this
    rw [← hhi, hsame] at hrun
    refine dop_sound hN hcall hbody hio hrun I.size I.defers reads hsim fun E' x w' q1 q2 q3 => hK _ _ (after (i + 1) E' x w' (C.mem i o hio heff) (by omega) (fun k ok hok hke => ?_) q1 q2 q3)
    constructor
    · rintro (rfl | h)
      · omega
      · have := (hlev k ok hok hke).1 h
        omega
    · intro h
      by_cases hki : k = i
      · exact .inl hki
      · obtain ⟨mk, _, _, q3⟩ := hpair k ok hok
        exact .inr (hbit k hki (q3 heff hke (by omega)))
  | false =>
    have hrun' : (dopC P nt ops o).run call e.r (heapAt es hf s) = .val e.v (heapAt es hf s) := by
      cases hlo : looks o.op with
      | false => exact (dop_quiet heff hrun).2 hlo _
      | true =>
        obtain ⟨e', q1, q2⟩ := C.ask i o hio hlo heff
        rw [hes] at q1; cases q1
        obtain ⟨h', q3⟩ := q2 s hs (zipAll_mk (by rw [masksFrom_length]; simp) fun k mk ok h1 h2 => by
          simp only [Nat.zero_add]
          have hok : ops[k]? = some ok := by simpa using h2
          cases hke : isEff P ok.op with
          | false => rfl
          | true =>
            simp only [cond_true]
            cases hks : Nat.blt k s with
            | true =>
              rw [Nat.blt_eq] at hks
              simp only [cond_true, Bool.not_eq_true']
              cases hb : bitB mk i with
              | false => rfl
              | true => exact absurd (hmask k mk i h1 hb ((hlev k ok hok hke).2 hks)) hnot
            | false =>
              have hks' : ¬ k < s := by rw [← Nat.blt_eq, hks]; simp
              simp only [cond_false, Bool.not_eq_true', hmi, Option.getD_some]
              cases hb : bitB mi k with
              | false => rfl
              | true =>
                by_cases hki : k = i
                · subst hki; rw [hio] at hok; cases hok; rw [heff] at hke; cases hke
                · exact absurd ((hlev k ok hok hke).1 (hbit k hki hb)) hks')
        rw [(dop_quiet heff q3).1] at q3
        exact q3
    refine dop_sound hN hcall hbody hio hrun' I.size I.defers reads hsim fun E' x w' q1 q2 q3 => hK _ _ (after s E' x w' hs hsn (fun k ok hok hke => ?_) q1 q2 q3)
    rw [← hlev k ok hok hke]
    constructor
    · rintro (rfl | h)
      · rw [hio] at hok; cases hok; rw [heff] at hke; cases hke
      · exact h
    · exact fun h => .inr h

theorem draw_any {w0 : World} (hN : NamesOk P) (hcall : CallOk P w0 call) (hbody : CallBody P call) (C : Cert P nt ops call es r0 h0 rf hf starts) {E0 : Env} {Q : Exit → Act → World → Prop}
    (hQ : ∀ E' a' w', E0.le E' → RegRel E' nt rf a' → Sim w0 E' hf w' → Q .normal a' w') : ∀ (fuel : Nat) (listed : Array Bool) (a : Act) (w : World), (List.range ops.size).countP (fun i => !listed.getD i false) ≤ fuel →
    DInv P w0 nt ops es r0 hf starts E0 listed a w → wpAny P .any ops Q fuel listed a w := by
  -- where nothing is ready all is done
  have done : ∀ (listed : Array Bool) (a : Act) (w : World), DInv P w0 nt ops es r0 hf starts E0 listed a w → Region.ready .any ops listed = [] → ∀ i, i < ops.size → listed.getD i false = true := by
    intro listed a w I hr i
    induction i using Nat.strongRecOn with
    | _ i ih =>
      intro hi
      cases hli : listed.getD i false with
      | true => rfl
      | false =>
        exfalso
        have hio : ops[i]? = some ops[i] := Array.getElem?_eq_getElem hi
        obtain ⟨mi, _, hon, _⟩ := C.fineAt hio
        have : i ∈ Region.ready .any ops listed := by
          rw [mem_ready]
          refine ⟨?_, ops[i], hio, fun e he hb => ?_⟩
          · have hsz : i < listed.size := by rw [I.lsize]; exact hi
            rw [Array.getD_eq_getD_getElem?, Array.getElem?_eq_getElem hsz] at hli ⊢
            exact hli
          · have h1 := List.all_eq_true.1 hon e (Array.mem_toList_iff.2 he)
            rw [binds_eq] at hb
            rw [hb] at h1
            simp only [Bool.not_true, Bool.false_or, Nat.blt_eq] at h1
            exact ih e.on h1 (by omega)
        rw [hr] at this
        simp at this
  have finish : ∀ (listed : Array Bool) (a : Act) (w : World), DInv P w0 nt ops es r0 hf starts E0 listed a w → Region.ready .any ops listed = [] → Q .normal a w := by
    intro listed a w I hr
    have hall := done listed a w I hr
    obtain ⟨E, s, hE, hs, hsn, hlev, hsim, hregs⟩ := I.main
    have hheap : heapAt es hf ops.size = hf := by
      have : es[ops.size]? = none := List.getElem?_eq_none (by rw [C.len]; exact Nat.le_refl _)
      simp [heapAt, this]
    have hregf : regAt es rf ops.size = rf := by
      have : es[ops.size]? = none := List.getElem?_eq_none (by rw [C.len]; exact Nat.le_refl _)
      simp [regAt, this]
    have hsame : heapAt es hf ops.size = heapAt es hf s := by
      have := C.heaps s (ops.size - s) (by omega) fun k ok h1 h2 hok => by
        cases hke : isEff P ok.op with
        | false => rfl
        | true =>
          have := (hlev k ok hok hke).1 (hall k (by omega))
          omega
      rwa [show s + (ops.size - s) = ops.size from by omega] at this
    refine hQ E a w hE ⟨I.size, I.defers, fun t ht => ?_⟩ (by rw [← hheap, hsame]; exact hsim)
    have huniq : ∀ (k k' : Nat) (ok ok' : Oper), ops[k]? = some ok → ops[k']? = some ok' → ok.dst = some t → ok'.dst = some t → k = k' := by
      intro k k' ok ok' h1 h2 h3 h4
      obtain ⟨mk, _, _, hp⟩ := C.fineAt h1
      obtain ⟨mk', _, hp2, _⟩ := hp k' ok' h2
      unfold pairFine at hp2
      rw [cond_beq] at hp2
      by_cases hkk : k = k'
      · exact hkk
      · rw [if_neg hkk, h4, h3] at hp2
        simp at hp2
    rcases C.regs ops.size (Nat.le_refl _) t ht with ⟨k, ok, ek, q1, q2, q3, q4, q5⟩ | ⟨q1, q2⟩
    · rw [hregf] at q5
      rcases hregs t ht with ⟨k', ok', ek', p1, p2, p3, p4, p5⟩ | ⟨p1, _⟩
      · have := huniq k k' ok ok' q2 p2 q3 p3
        subst this
        rw [q4] at p4; cases p4
        rw [q5]; exact p5
      · exact absurd q3 (p1 k ok (hall k q1) q2)
    · rw [hregf] at q2
      rcases hregs t ht with ⟨k', ok', ek', p1, p2, p3, p4, p5⟩ | ⟨_, p2⟩
      · exact absurd p3 (q1 k' ok' (Array.getElem?_eq_some_iff.1 p2).1 p2)
      · rw [q2]; exact p2
  intro fuel
  induction fuel with
  | zero =>
    intro listed a w hc I
    have hall : ∀ i, i < ops.size → listed.getD i false = true := by
      intro i hi
      have h0 : (List.range ops.size).countP (fun i => !listed.getD i false) = 0 := by omega
      rw [List.countP_eq_zero] at h0
      simpa using h0 i (List.mem_range.2 hi)
    have hr : Region.ready .any ops listed = [] := by
      cases hq : Region.ready .any ops listed with
      | nil => rfl
      | cons j js =>
        exfalso
        have hj : j ∈ Region.ready .any ops listed := by rw [hq]; simp
        rw [mem_ready] at hj
        obtain ⟨h1, o, h2, _⟩ := hj
        have := hall j (Array.getElem?_eq_some_iff.1 h2).1
        rw [getD_iff] at this
        rw [Array.getD_eq_getD_getElem?, this] at h1
        simp at h1
    exact ⟨hr, finish listed a w I hr⟩
  | succ fuel ih =>
    intro listed a w hc I
    refine ⟨fun hr => finish listed a w I hr, fun i hi => ?_⟩
    refine draw_step hN hcall hbody C I hi fun a' w' I' => ih _ a' w' ?_ I'
    have hi2 := hi
    rw [mem_ready] at hi2
    obtain ⟨h1, o, h2, _⟩ := hi2
    have hin : i < ops.size := (Array.getElem?_eq_some_iff.1 h2).1
    have hli : i < listed.size := by rw [I.lsize]; exact hin
    have hnot : listed.getD i false = false := by
      rw [Array.getD_eq_getD_getElem?, Array.getElem?_eq_getElem hli] at h1 ⊢
      exact h1
    have := countP_lt (fun k => !listed.getD k false) (fun k => !(listed.setIfInBounds i true).getD k false) (List.range ops.size)
      (fun k _ hk => by
        simp only [Bool.not_eq_true'] at hk ⊢
        cases hq : listed.getD k false with
        | false => rfl
        | true =>
          have := (getD_set (k := k) hli).2 (.inr hq)
          rw [hk] at this
          cases this)
      ⟨i, List.mem_range.2 hin, by simp [hnot], by
        have := (getD_set (k := i) hli).2 (.inl rfl)
        simp [this]⟩
    omega

theorem drawC_sound {w0 : World} {E : Env} {h h' : Heap} {w : World} {id : Nat} (hM : P.follows .mixedOrders = true) (hN : NamesOk P) (hcall : CallOk P w0 call) (hbody : CallBody P call) {r r' : Regs} {a : Act}
    (he : (drawC P nt ops).run call r h = .ok r' h') (k : RegRel E nt r a) (s : Sim w0 E h w) {Q : Exit → Act → World → Prop}
    (hQ : ∀ E' a' w', E.le E' → RegRel E' nt r' a' → Sim w0 E' h' w' → Q .normal a' w') : (Code.region id ops true).wp P Q a w := by
  unfold drawC at he
  cases hf : drawFine P ops with
  | false => rw [hf] at he; cases he
  | true =>
    rw [hf] at he
    simp only [cond_true] at he
    have main : ∀ (q : AskC) (starts : List Nat), 0 ∈ starts → (∀ j o, ops[j]? = some o → isEff P o.op = true → j + 1 ∈ starts) →
        (∀ es hf', (stepsD P nt ops ops.toList).run call r h = .ok es r' hf' → q.run call es hf' = true → ∀ j o, ops[j]? = some o → looks o.op = true → isEff P o.op = false → ∃ e, es[j]? = some e ∧ ∀ s ∈ starts,
          mayStand P (masksFrom [] ops.toList) ops.toList j (((masksFrom [] ops.toList)[j]?).getD 0) s = true → ∃ h', (dopC P nt ops o).run call e.r (heapAt es hf' s) = .val e.v h') →
        drawRun (stepsD P nt ops ops.toList) q call r h = .ok r' h' → (Code.region id ops true).wp P Q a w := by
      intro q starts hz hmem hask hrun
      unfold drawRun at hrun
      cases hst : (stepsD P nt ops ops.toList).run call r h with
      | fail => rw [hst] at hrun; cases hrun
      | ok es rr hh =>
        rw [hst] at hrun
        simp only at hrun
        cases hq : q.run call es hh with
        | false => rw [hq] at hrun; cases hrun
        | true =>
          rw [hq] at hrun
          simp only [cond_true, RR.ok.injEq] at hrun
          obtain ⟨rfl, rfl⟩ := hrun
          obtain ⟨q1, q2, q3, q4⟩ := stepsD_spec hst
          have C : Cert P nt ops call es r h rr hh starts := ⟨by simpa using q1, q2, q3, fun j o ho => q4 j o (by simpa using ho), hf, hz, hmem, hask es hh hst hq⟩
          refine wp_region_any hM (draw_any hN hcall hbody C (E0 := E) hQ ops.size _ a _ ?_ ?_)
          · exact Nat.le_trans List.countP_le_length (by simp)
          · have hnone : ∀ k, ¬ (Array.replicate ops.size false).getD k false = true := by
              intro k
              rw [getD_iff, Array.getElem?_replicate]
              split <;> simp
            refine ⟨by simp, k.size, k.defers, fun k' o e hk => absurd hk (hnone k'), E, 0, Env.le.refl E, hz, Nat.zero_le _, fun k' o h1 h2 => ⟨fun h => absurd h (hnone k'), fun h => by omega⟩, ?_, fun t ht => .inr ⟨fun k' o hk => absurd hk (hnone k'), k.reg t ht⟩⟩
            rw [q2]
            exact s.same rfl rfl rfl rfl
    cases hl : levelStarts P 0 ops.toList with
    | nil =>
      rw [hl] at he
      have none : ∀ (j : Nat) (o : Oper), ops[j]? = some o → isEff P o.op = true → False := by
        intro j o h1 h2
        have := levelStarts_mem (i := 0) (j := j) (o := o) (l := ops.toList) (by simpa using h1) h2
        rw [hl] at this
        simp at this
      refine main _ [0] (by simp) (fun j o h1 h2 => (none j o h1 h2).elim) (fun es hf' hst _ j o ho hlo hq => ?_) he
      obtain ⟨q1, q2, q3, q4⟩ := stepsD_spec hst
      obtain ⟨e, p1, p2, p3⟩ := q4 j o (by simpa using ho)
      refine ⟨e, p1, fun s hs _ => ?_⟩
      simp only [List.mem_singleton] at hs
      subst hs
      have flat : ∀ d, d ≤ ops.size → heapAt es hf' d = heapAt es hf' 0 := by
        intro d
        induction d with
        | zero => intro _; rfl
        | succ d ih =>
          intro hd
          have hdo : ops[d]? = some ops[d] := Array.getElem?_eq_getElem (by omega)
          obtain ⟨ed, w1, w2, _⟩ := q4 d ops[d] (by simp)
          have hne : isEff P ops[d].op = false := by
            cases hke : isEff P ops[d].op with
            | false => rfl
            | true => exact (none d _ hdo hke).elim
          rw [(dop_quiet hne w2).1, ← ih (by omega)]
          simp [heapAt, w1]
      have hjn : j < ops.size := (Array.getElem?_eq_some_iff.1 ho).1
      have : e.h = heapAt es hf' 0 := by rw [← flat j (by omega)]; simp [heapAt, p1]
      rw [← this]
      exact ⟨_, p2⟩
    | cons s0 ss =>
      rw [hl] at he
      refine main _ (0 :: s0 :: ss) (by simp) (fun j o h1 h2 => ?_) (fun es hf' hst hq j o ho hlo hqq => ?_) he
      · have := levelStarts_mem (i := 0) (j := j) (o := o) (l := ops.toList) (by simpa using h1) h2
        rw [hl] at this
        simp only [Nat.zero_add] at this
        exact List.mem_cons_of_mem _ this
      · have := asksC_spec hq j o (by simpa using ho) hlo hqq
        simpa using this
end
end Go.Proofs.Ytkjifhoiiciblaa.Am

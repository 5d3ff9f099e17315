/- The abstract machine and its walks (a verified interpreter of the model's code: plain definitions and lemmas, no condition). -/
import Derived.Test.YtpfmfpakbfkfoaaGreatDoorM3
import Derived.Scope

namespace Go.Proofs.YtpfmfpakbfkfoaaGreatDoor.Am
variable [Lay]
set_option linter.unusedSectionVars false
open Go Go.RowKit

theorem countP_lt {α : Type} (p q : α → Bool) : ∀ (l : List α), (∀ x ∈ l, q x = true → p x = true) → (∃ x ∈ l, p x = true ∧ q x = false) → l.countP q < l.countP p
  | [], _, h => by obtain ⟨x, hx, _⟩ := h; simp at hx
  | a :: l, h1, h2 => by
    have hle : l.countP q ≤ l.countP p := List.countP_mono_left fun x hx => h1 x (by simp [hx])
    obtain ⟨x, hx, hp, hq⟩ := h2
    simp only [List.mem_cons] at hx
    rcases hx with rfl | hx
    · rw [List.countP_cons, List.countP_cons, hp, hq]
      simp
      omega
    · have ih := countP_lt p q l (fun y hy => h1 y (by simp [hy])) ⟨x, hx, hp, hq⟩
      have ha := h1 a (by simp)
      rw [List.countP_cons, List.countP_cons]
      cases hqa : q a with
      | true => rw [ha hqa]; simp; omega
      | false => simp; omega

theorem binds_eq (e : Edge) : Region.binds .any e = bindsB e := by
  unfold Region.binds bindsB
  cases e.ground <;> rfl

section
variable {P : Program}

theorem permAt_get {order : List Nat} : ∀ {ps : List Nat} {k j p : Nat}, permAt order k ps = true → ps[j]? = some p → order[p]? = some (k + j)
  | [], _, j, p, _, h => by simp at h
  | q :: ps, k, j, p, hp, h => by
    simp only [permAt, Bool.and_eq_true] at hp
    cases j with
    | zero =>
      simp only [List.getElem?_cons_zero, Option.some.injEq] at h
      subst h
      have h1 := hp.1
      cases hq : order[q]? with
      | none => rw [hq] at h1; cases h1
      | some i => rw [hq] at h1; rw [Nat.beq_eq] at h1; rw [h1]; rfl
    | succ j =>
      have := permAt_get hp.2 (show ps[j]? = some p by simpa using h)
      rw [this]
      congr 1
      omega

theorem opsAt_get {ops : Array Oper} : ∀ {order : List Nat} {p i : Nat} {o : Oper}, order[p]? = some i → ops[i]? = some o → (opsAt ops order)[p]? = some o
  | [], p, i, o, h, _ => by simp at h
  | x :: xs, p, i, o, h, ho => by
    cases p with
    | zero =>
      simp only [List.getElem?_cons_zero, Option.some.injEq] at h
      subst h
      simp [opsAt, ho]
    | succ p => simpa [opsAt] using opsAt_get (show xs[p]? = some i by simpa using h) ho

theorem opsAt_length {ops : Array Oper} : ∀ {order : List Nat}, (opsAt ops order).length = order.length
  | [] => rfl
  | x :: xs => by simp [opsAt, opsAt_length (order := xs)]

/-- what is known of a drawn region that the machine has run in its own order, as far as N operations (behind them: a panic, or nothing) -/
structure Cert (P : Program) (nt : Nat) (ops : Array Oper) (calls : Nat → CallF) (es : List Ent) (r0 : Regs) (h0 : Heap) (rf : Regs) (hf : Heap) (starts : List Nat) (order poss : List Nat) (N M : Nat) (lit : Bool) : Prop where
  len : es.length = N
  nle : N ≤ ops.size
  nm : N ≤ M
  posLt : ∀ k, k < ops.size → posOf poss k < ops.size ∧ order[posOf poss k]? = some k
  ordAt : ∀ p, p < ops.size → ∃ i, i < ops.size ∧ posOf poss i = p
  h0 : heapAt es hf 0 = h0
  r0 : regAt es rf 0 = r0
  step : ∀ i o, ops[i]? = some o → posOf poss i < N → ∃ e, es[posOf poss i]? = some e ∧ (dopC P nt ops o).run (calls i) e.r e.h = .val e.v (heapAt es hf (posOf poss i + 1)) ∧ regAt es rf (posOf poss i + 1) = (putC o.dst).run e.r e.v
  fine : ∀ i o, ops[i]? = some o → ∃ mi, (masksFrom [] ops.toList)[i]? = some mi ∧ onFine i o = true ∧ (posOf poss i < M →
    ∀ k ok, ops[k]? = some ok → posOf poss k < M → ∃ mk, (masksFrom [] ops.toList)[k]? = some mk ∧ pairFine i mi (readsOf ops o) o.dst k mk ok (Nat.blt (posOf poss k) (posOf poss i)) = true ∧ (isEff P o.op = true → isChain P ok = true → posOf poss k < posOf poss i → bitB mi k = true ∨ (lit = true ∧ isIns o = true ∧ isIns ok = true)))
  ends : N ∈ starts
  mem : ∀ j o, ops[j]? = some o → isChain P o = true → posOf poss j ∈ starts
  sts : ∀ s ∈ starts, (s = ops.size ∨ (s = N ∧ M = N)) ∨ ∃ k o, ops[k]? = some o ∧ isChain P o = true ∧ s = posOf poss k
  ask : ∀ j o, ops[j]? = some o → looks o.op = true → isEff P o.op = false → posOf poss j < N → ∃ e, es[posOf poss j]? = some e ∧ ∀ s ∈ starts,
    mayStand P (masksFrom [] ops.toList) ops.toList poss j (((masksFrom [] ops.toList)[j]?).getD 0) s = true → ∃ c h', (CallOk P c ∧ CallBody P c) ∧ (dopC P nt ops o).run c e.r (heapAt es hf s) = .val e.v h'
  tail : M < ops.size → M = N ∧ ∀ k ok mk, ops[k]? = some ok → N ≤ posOf poss k → (masksFrom [] ops.toList)[k]? = some mk → ∀ j, j < ops.size → posOf poss j < N → bitB mk j = true
  stop : N < ops.size → ops.size ≤ M → ∃ i0 o0 m0, ops[i0]? = some o0 ∧ posOf poss i0 = N ∧ mayPan o0.op = true ∧ (masksFrom [] ops.toList)[i0]? = some m0 ∧
    (∀ k ok mk, ops[k]? = some ok → N < posOf poss k → (masksFrom [] ops.toList)[k]? = some mk → bitB mk i0 = true) ∧
    (∀ k ok, ops[k]? = some ok → isAlloc ok = true → posOf poss k < N → bitB m0 k = true) ∧ ∃ v h', (dopC P nt ops o0).run (calls i0) rf hf = .pan v h'

theorem mayPan_chain {o : Oper} (h : mayPan o.op = true) : isEff P o.op = true ∧ isAlloc o = false := by
  obtain ⟨dst, op, type, pos, after, guard⟩ := o
  cases op <;> simp only [mayPan] at h <;> try (cases h; done)
  · rename_i c
    obtain ⟨callee, args, types⟩ := c
    cases callee <;> simp only at h <;> try (cases h; done)
    exact ⟨rfl, rfl⟩
  · exact ⟨rfl, rfl⟩

variable {nt : Nat} {ops : Array Oper} {call : CallF} {calls : Nat → CallF} {es : List Ent} {r0 : Regs} {h0 : Heap} {rf : Regs} {hf : Heap} {starts : List Nat} {order poss : List Nat} {N M : Nat} {lit : Bool}

theorem Cert.posInj (C : Cert P nt ops calls es r0 h0 rf hf starts order poss N M lit) {k k' : Nat} (h1 : k < ops.size) (h2 : k' < ops.size) (he : posOf poss k = posOf poss k') : k = k' := by
  have a := (C.posLt k h1).2
  have b := (C.posLt k' h2).2
  rw [he, b] at a
  cases a
  rfl

theorem drawFine_spec {ops : Array Oper} {poss : List Nat} (hf : drawFine P ops poss = true) : ∀ i o, ops[i]? = some o → ∃ mi, (masksFrom [] ops.toList)[i]? = some mi ∧ onFine i o = true ∧
    ∀ k ok, ops[k]? = some ok → ∃ mk, (masksFrom [] ops.toList)[k]? = some mk ∧ pairFine i mi (readsOf ops o) o.dst k mk ok (Nat.blt (posOf poss k) (posOf poss i)) = true ∧ (isEff P o.op = true → isChain P ok = true → posOf poss k < posOf poss i → bitB mi k = true) := by
  intro i o hi
  unfold drawFine at hf
  obtain ⟨mi, h1, h2⟩ := zipAll_get hf i o (by simpa using hi)
  simp only [Nat.zero_add, Bool.and_eq_true] at h2
  refine ⟨mi, h1, h2.1, fun k ok hk => ?_⟩
  obtain ⟨mk, k1, k2⟩ := zipAll_get h2.2 k ok (by simpa using hk)
  simp only [Nat.zero_add, Bool.and_eq_true] at k2
  refine ⟨mk, k1, k2.1, fun e1 e2 hlt => ?_⟩
  have k3 := k2.2
  rw [e1, e2, Bool.true_and, show Nat.blt (posOf poss k) (posOf poss i) = true from by rw [Nat.blt_eq]; exact hlt] at k3
  exact k3

/-- the registers ahead of a place -/
theorem Cert.regs (C : Cert P nt ops calls es r0 h0 rf hf starts order poss N M lit) : ∀ p, p ≤ N → ∀ t, t ≤ top →
    (∃ k o e, posOf poss k < p ∧ ops[k]? = some o ∧ o.dst = some t ∧ es[posOf poss k]? = some e ∧ T.get .bad (pa t) (regAt es rf p) = e.v) ∨
    ((∀ k o, posOf poss k < p → ops[k]? = some o → o.dst ≠ some t) ∧ T.get .bad (pa t) (regAt es rf p) = T.get .bad (pa t) r0)
  | 0, _, t, ht => .inr ⟨fun k o h => by omega, by rw [C.r0]⟩
  | p + 1, hi, t, ht => by
    obtain ⟨i, hlt, hpi⟩ := C.ordAt p (by have := C.nle; omega)
    have hio : ops[i]? = some ops[i] := Array.getElem?_eq_getElem hlt
    obtain ⟨e, h1, h2, h3⟩ := C.step i ops[i] hio (by omega)
    rw [hpi] at h1 h2 h3
    have hreg : regAt es rf p = e.r := by simp [regAt, h1]
    have hput := get_put_dst (r := e.r) (v := e.v) (dopC_fine h2).1 ht
    rw [h3, hput]
    by_cases hd : ops[i].dst = some t
    · rw [if_pos hd]
      exact .inl ⟨i, _, e, by omega, hio, hd, by rw [hpi]; exact h1, rfl⟩
    · rw [if_neg hd, ← hreg]
      rcases Cert.regs C p (by omega) t ht with ⟨k, o, e', q1, q2, q3, q4, q5⟩ | ⟨q1, q2⟩
      · exact .inl ⟨k, o, e', by omega, q2, q3, q4, q5⟩
      · refine .inr ⟨fun k o hk ho => ?_, q2⟩
        by_cases hki : k = i
        · subst hki; rw [hio] at ho; cases ho; exact hd
        · refine q1 k o ?_ ho
          have hkl := (Array.getElem?_eq_some_iff.1 ho).1
          have : posOf poss k ≠ p := fun e => hki (C.posInj hkl hlt (by rw [e, hpi]))
          omega

/-- where the deferred calls stand nothing turns -/
theorem Cert.dsl (C : Cert P nt ops calls es r0 h0 rf hf starts order poss N M lit) : ∀ p, p ≤ N → T.get .bad dslot (regAt es rf p) = T.get .bad dslot r0
  | 0, _ => by rw [C.r0]
  | p + 1, hi => by
    obtain ⟨i, hlt, hpi⟩ := C.ordAt p (by have := C.nle; omega)
    have hio : ops[i]? = some ops[i] := Array.getElem?_eq_getElem hlt
    obtain ⟨e, h1, h2, h3⟩ := C.step i ops[i] hio (by omega)
    rw [hpi] at h1 h2 h3
    have hreg : regAt es rf p = e.r := by simp [regAt, h1]
    have hd := (dopC_fine h2).1
    rw [h3, ← Cert.dsl C p (by omega), hreg]
    cases hdst : ops[i].dst with
    | none => rfl
    | some d =>
      rw [hdst] at hd
      simp only [dstFine, Bool.and_eq_true, Nat.ble_eq] at hd
      simp only [putC]
      rw [T.get_put, if_neg (pa_dslot hd.2)]

/-! The blocks that are held. -/
def nameAt (es : List Ent) (hf : Heap) (poss : List Nat) (k : Nat) : Pa := pa (heapAt es hf (posOf poss k)).next
noncomputable def blkAt (es : List Ent) (hf : Heap) (poss : List Nat) (k : Nat) : Blk := (heapAt es hf (posOf poss k + 1)).get (nameAt es hf poss k)

def Made (es : List Ent) (hf : Heap) (poss : List Nat) (k : Nat) : Prop := (heapAt es hf (posOf poss k + 1)).next ≠ (heapAt es hf (posOf poss k)).next

def Held (ops : Array Oper) (es : List Ent) (hf : Heap) (poss : List Nat) (listed : Array Bool) (s k : Nat) : Prop :=
  ∃ o, ops[k]? = some o ∧ (isAlloc o = true ∧ Made es hf poss k) ∧ ¬ listed.getD k false = true ∧ posOf poss k < s

structure Holds (w0 F : Fr) (es : List Ent) (hf : Heap) (poss : List Nat) (D : Nat → Prop) : Prop where
  w : F.w = w0.w
  old : ∀ b, (∀ k, D k → nameAt es hf poss k ≠ b) → F.pend b = w0.pend b
  new : ∀ k, D k → F.pend (nameAt es hf poss k) = some (blkAt es hf poss k) ∧ w0.pend (nameAt es hf poss k) = none
  inj : ∀ k k', D k → D k' → nameAt es hf poss k = nameAt es hf poss k' → k = k'

theorem Holds.congr {w0 F : Fr} {D D' : Nat → Prop} (H : Holds w0 F es hf poss D) (h : ∀ k, D' k ↔ D k) : Holds w0 F es hf poss D' :=
  ⟨H.w, fun b hb => H.old b fun k hk => hb k ((h k).2 hk), fun k hk => H.new k ((h k).1 hk), fun k k' hk hk' => H.inj k k' ((h k).1 hk) ((h k').1 hk')⟩

theorem Holds.none {w0 F : Fr} {D : Nat → Prop} (H : Holds w0 F es hf poss D) (h : ∀ k, ¬ D k) : F = w0 := by
  have : F.pend = w0.pend := funext fun b => H.old b fun k hk => absurd hk (h k)
  cases F; cases w0
  have hw := H.w
  simp only at this hw
  rw [this, hw]

/-- onward to the next level: what only makes new blocks is held -/
theorem Cert.advance (C : Cert P nt ops calls es r0 h0 rf hf starts order poss N M lit) {w0 : Fr} {listed : Array Bool} {E : Env} {w : World} : ∀ (d q : Nat), q + d = N → (∀ k o, ops[k]? = some o → isAlloc o = true → q ≤ posOf poss k → ¬ listed.getD k false = true) →
    ∀ F, Holds w0 F es hf poss (Held ops es hf poss listed q) → Sim F E (heapAt es hf q) w →
    ∃ s F', s ∈ starts ∧ q ≤ s ∧ s ≤ N ∧ (∀ k o, ops[k]? = some o → isChain P o = true → q ≤ posOf poss k → s ≤ posOf poss k) ∧ Holds w0 F' es hf poss (Held ops es hf poss listed s) ∧ Sim F' E (heapAt es hf s) w
  | 0, q, hq, _, F, H, S => by
    have : q = N := by omega
    subst this
    exact ⟨q, F, C.ends, Nat.le_refl _, Nat.le_refl _, fun k o _ _ h => h, H, S⟩
  | d + 1, q, hq, hnl, F, H, S => by
    obtain ⟨i, hlt, hpi⟩ := C.ordAt q (by have := C.nle; omega)
    have hio : ops[i]? = some ops[i] := Array.getElem?_eq_getElem hlt
    cases hch : isChain P ops[i] with
    | true => exact ⟨q, F, by rw [← hpi]; exact C.mem i _ hio hch, Nat.le_refl _, by omega, fun k o _ _ h => h, H, S⟩
    | false =>
      obtain ⟨e, h1, h2, h3⟩ := C.step i ops[i] hio (by omega)
      rw [hpi] at h1 h2
      have hhq : heapAt es hf q = e.h := by simp [heapAt, h1]
      have only : ∀ k o, ops[k]? = some o → posOf poss k = q → k = i := fun k o hk hp => C.posInj (Array.getElem?_eq_some_iff.1 hk).1 hlt (by rw [hp, hpi])
      have fin : ∀ F', Holds w0 F' es hf poss (Held ops es hf poss listed (q + 1)) → Sim F' E (heapAt es hf (q + 1)) w →
          ∃ s F', s ∈ starts ∧ q ≤ s ∧ s ≤ N ∧ (∀ k o, ops[k]? = some o → isChain P o = true → q ≤ posOf poss k → s ≤ posOf poss k) ∧ Holds w0 F' es hf poss (Held ops es hf poss listed s) ∧ Sim F' E (heapAt es hf s) w := by
        intro F' H' S'
        obtain ⟨s, F2, g1, g2, g3, g4, g5, g6⟩ := Cert.advance C d (q + 1) (by omega) (fun k o h1 h2 h3 => hnl k o h1 h2 (by omega)) F' H' S'
        refine ⟨s, F2, g1, by omega, g3, fun k o hk hc hp => g4 k o hk hc ?_, g5, g6⟩
        by_cases hpk : posOf poss k = q
        · have := only k o hk hpk
          subst this
          rw [hio] at hk; cases hk
          rw [hch] at hc; cases hc
        · omega
      have pass : heapAt es hf (q + 1) = e.h → (isAlloc ops[i] = true → ¬ Made es hf poss i) → ∃ s F', s ∈ starts ∧ q ≤ s ∧ s ≤ N ∧ (∀ k o, ops[k]? = some o → isChain P o = true → q ≤ posOf poss k → s ≤ posOf poss k) ∧ Holds w0 F' es hf poss (Held ops es hf poss listed s) ∧ Sim F' E (heapAt es hf s) w := by
        intro hsame hnm
        rw [← hhq] at hsame
        refine fin F (H.congr fun k => ⟨?_, ?_⟩) (by rw [hsame]; exact S)
        · rintro ⟨o, q1, q2, q3, q4⟩
          refine ⟨o, q1, q2, q3, ?_⟩
          have : posOf poss k ≠ q := fun e => by
            have := only k o q1 e
            subst this
            rw [hio] at q1; cases q1
            exact hnm q2.1 q2.2
          omega
        · rintro ⟨o, q1, q2, q3, q4⟩
          exact ⟨o, q1, q2, q3, by omega⟩
      cases ha : isAlloc ops[i] with
      | true =>
       rcases dop_shape ha h2 with ⟨kk, k1, k2⟩ | ⟨k1, _⟩
       ·
        have hs := S.hold kk
        have hn : nameAt es hf poss i = pa (heapAt es hf q).next := by unfold nameAt; rw [hpi]
        have hb : blkAt es hf poss i = kk := by
          unfold blkAt
          rw [hn, hpi, k1, hhq, Heap.get_new, if_pos rfl]
        rw [hhq, ← k1] at hs
        have hmd : Made es hf poss i := by
          unfold Made
          rw [hpi, k1, hhq]
          exact Nat.succ_ne_self _
        have hni : ¬ listed.getD i false = true := hnl i _ hio ha (by omega)
        have cases' : ∀ k, Held ops es hf poss listed (q + 1) k → k = i ∨ Held ops es hf poss listed q k := by
          rintro k ⟨o, q1, q2, q3, q4⟩
          by_cases hpk : posOf poss k = q
          · exact .inl (only k o q1 hpk)
          · exact .inr ⟨o, q1, q2, q3, by omega⟩
        have fresh : ∀ b kb, F.pend b = some kb → b ≠ nameAt es hf poss i := by
          intro b kb hbk heq
          obtain ⟨_, _, j, j1, j2⟩ := S.pen b kb hbk
          rw [heq, hn] at j2
          rw [hhq] at j1 j2
          have := pa_inj j2
          omega
        have inF : ∀ b, b ≠ nameAt es hf poss i → (F.hold (pa e.h.next) kk).pend b = F.pend b := by
          intro b hbne
          rw [hn, hhq] at hbne
          simp only [Fr.hold, if_neg hbne]
        have atF : (F.hold (pa e.h.next) kk).pend (nameAt es hf poss i) = some kk := by
          rw [hn, hhq]
          simp only [Fr.hold, if_true]
        have ne : ∀ k, Held ops es hf poss listed q k → nameAt es hf poss k ≠ nameAt es hf poss i := fun k hk => fresh _ _ (H.new k hk).1
        refine fin (F.hold (pa e.h.next) kk) ⟨H.w, fun b hbk => ?_, fun k hk => ?_, fun k k' hk hk' he => ?_⟩ hs
        · have hbi : b ≠ nameAt es hf poss i := fun e => hbk i ⟨_, hio, ⟨ha, hmd⟩, hni, by omega⟩ e.symm
          rw [inF b hbi]
          exact H.old b fun k hk => hbk k (by obtain ⟨o, q1, q2, q3, q4⟩ := hk; exact ⟨o, q1, q2, q3, by omega⟩)
        · rcases cases' k hk with rfl | hk
          · refine ⟨by rw [atF, hb], ?_⟩
            cases hp : w0.pend (nameAt es hf poss k) with
            | none => rfl
            | some kb =>
              exfalso
              have := H.old (nameAt es hf poss k) fun k' hk' => ne k' hk'
              rw [hp] at this
              exact fresh _ _ this rfl
          · rw [inF _ (ne k hk)]
            exact H.new k hk
        · rcases cases' k hk with rfl | hk <;> rcases cases' k' hk' with rfl | hk'
          · rfl
          · exact absurd he.symm (ne k' hk')
          · exact absurd he (ne k hk)
          · exact H.inj k k' hk hk' he
       · refine pass k1 fun _ hm => hm ?_
         rw [hpi, k1, hhq]
      | false =>
        have hne : isEff P ops[i].op = false := by
          unfold isChain at hch
          rw [ha] at hch
          simpa using hch
        exact pass (dop_quiet hne h2).1 fun h => by rw [ha] at h; cases h

structure DInv (P : Program) (w0 : Fr) (nt : Nat) (ops : Array Oper) (es : List Ent) (r0 : Regs) (hf : Heap) (starts poss : List Nat) (E0 : Env) (N : Nat) (D : List Deferred) (listed : Array Bool) (a : Act) (w : World) : Prop where
  lsize : listed.size = ops.size
  size : a.tmps.size = nt
  defers : a.defers = D
  bnd : ∀ k, listed.getD k false = true → posOf poss k < N
  down : DownP ops fun k => listed.getD k false = true
  main : ∃ E s F, E0.le E ∧ s ∈ starts ∧ s ≤ N ∧ (∀ k o, ops[k]? = some o → isChain P o = true → (listed.getD k false = true ↔ posOf poss k < s)) ∧
    (∀ k o, ops[k]? = some o → isAlloc o = true → listed.getD k false = true → posOf poss k < s) ∧ Holds w0 F es hf poss (Held ops es hf poss listed s) ∧ Sim F E (heapAt es hf s) w ∧
    ∀ t, t ≤ top → (∃ k o e, listed.getD k false = true ∧ ops[k]? = some o ∧ o.dst = some t ∧ es[posOf poss k]? = some e ∧ Rel E e.v (a.tmps.getD t undef)) ∨
      ((∀ k o, listed.getD k false = true → ops[k]? = some o → o.dst ≠ some t) ∧ Rel E (T.get .bad (pa t) r0) (a.tmps.getD t undef))

theorem getD_iff {l : Array Bool} {i : Nat} : l.getD i false = true ↔ l[i]? = some true := by
  rw [Array.getD_eq_getD_getElem?]
  cases l[i]? with
  | none => simp
  | some b => cases b <;> simp

theorem getD_set {l : Array Bool} {i k : Nat} (hi : i < l.size) : (l.setIfInBounds i true).getD k false = true ↔ (k = i ∨ l.getD k false = true) := by
  rw [getD_iff, getD_iff, Array.getElem?_setIfInBounds]
  by_cases h : i = k
  · subst h; simp [hi]
  · have : ¬ k = i := fun e => h e.symm
    simp [h, this]

theorem eraseR_get {r : Regs} {t : Nat} (ht : t ≤ top) : ∀ {l : List Oper}, T.get .bad (pa t) (eraseR r l) = .bad ∨ (T.get .bad (pa t) (eraseR r l) = T.get .bad (pa t) r ∧ ∀ o ∈ l, o.dst ≠ some t)
  | [] => .inr ⟨rfl, fun o ho => by simp at ho⟩
  | o :: os => by
    simp only [eraseR]
    cases hd : o.dst with
    | none =>
      simp only
      rcases eraseR_get (r := r) ht (l := os) with h | ⟨h1, h2⟩
      · exact .inl h
      · exact .inr ⟨h1, fun o' ho' => by
          rcases List.mem_cons.1 ho' with rfl | ho'
          · rw [hd]; simp
          · exact h2 o' ho'⟩
    | some d =>
      simp only
      cases hb : Nat.ble d top with
      | true =>
        simp only [cond_true]
        rw [T.get_put]
        by_cases hdt : d = t
        · subst hdt; rw [if_pos rfl]; exact .inl rfl
        · rw [if_neg (fun e => hdt (pa_inj e))]
          rcases eraseR_get (r := r) ht (l := os) with h | ⟨h1, h2⟩
          · exact .inl h
          · exact .inr ⟨h1, fun o' ho' => by
              rcases List.mem_cons.1 ho' with rfl | ho'
              · rw [hd]; simpa using hdt
              · exact h2 o' ho'⟩
      | false =>
        simp only [cond_false]
        have hdt : d ≠ t := fun e => by subst e; rw [← Nat.ble_eq] at ht; rw [ht] at hb; cases hb
        rcases eraseR_get (r := r) ht (l := os) with h | ⟨h1, h2⟩
        · exact .inl h
        · exact .inr ⟨h1, fun o' ho' => by
            rcases List.mem_cons.1 ho' with rfl | ho'
            · rw [hd]; simpa using hdt
            · exact h2 o' ho'⟩

theorem eraseR_dslot {r : Regs} : ∀ {l : List Oper}, T.get .bad dslot (eraseR r l) = T.get .bad dslot r
  | [] => rfl
  | o :: os => by
    simp only [eraseR]
    cases hd : o.dst with
    | none => exact eraseR_dslot
    | some d =>
      simp only
      cases hb : Nat.ble d top with
      | true =>
        simp only [cond_true]
        rw [T.get_put, if_neg (pa_dslot (Nat.le_of_ble_eq_true hb))]
        exact eraseR_dslot
      | false => exact eraseR_dslot

theorem draw_step {rd : Option Nat} {D : List Deferred} {w0 : Fr} (hN : NamesOk P) (hcall : ∀ i, CallOk P (calls i)) (hbody : ∀ i, CallBody P (calls i)) (C : Cert P nt ops calls es r0 h0 rf hf starts order poss N M lit) {E0 : Env} {listed : Array Bool} {a : Act} {w : World} (I : DInv P w0 nt ops es r0 hf starts poss E0 N D listed a w)
    {i : Nat} (hi : i ∈ Region.ready .any ops listed) (hiM : posOf poss i < M) (hins : lit = true → ∀ o k ok, ops[i]? = some o → isIns o = true → ops[k]? = some ok → isIns ok = true → posOf poss k < posOf poss i → listed.getD k false = true) {Q : Exit → Act → World → Prop} {K : Act → World → Prop} (hK : ∀ a' w', DInv P w0 nt ops es r0 hf starts poss E0 N D (listed.setIfInBounds i true) a' w' → K a' w')
    (hQ : ∀ E' a' w' x v h', E0.le E' → N < ops.size → ops.size ≤ M → (∃ i0 o0, ops[i0]? = some o0 ∧ posOf poss i0 = N ∧ (dopC P nt ops o0).run (calls i0) rf hf = .pan v h') → RegRel0 E' nt (eraseR r0 ops.toList) a' → a'.defers = D → Rel E' v x → Sim w0 E' h' w' → Q (.panic (panic1 x)) a' w') : wpOpIn (Wd rd) 0 P ops Q i K a w := by
  rw [mem_ready] at hi
  obtain ⟨E, s, F, hE, hs, hsn, hlev, hall, hheld, hsim, hregs⟩ := I.main
  obtain ⟨hnl, o, hio, hedges⟩ := hi
  have hin : i < ops.size := (Array.getElem?_eq_some_iff.1 hio).1
  have hnot : ¬ listed.getD i false = true := by
    rw [getD_iff]
    intro h
    rw [Array.getD_eq_getD_getElem?, h] at hnl
    simp at hnl
  have hmask := masksFrom_ok I.down ops.toList [] (fun j => by simp) (fun k m j hk => by simp at hk)
  have hD' : DownP ops fun k => listed.getD k false = true ∨ k = i := by
    intro k ok e hk hok he hb
    rcases hk with hk | rfl
    · exact .inl (I.down k ok e hk hok he hb)
    · rw [hio] at hok; cases hok
      exact .inl (hedges e (Array.mem_toList_iff.1 he) (by rw [binds_eq]; exact hb))
  have hmask' := masksFrom_ok hD' ops.toList [] (fun j => by simp) (fun k m j hk => by simp at hk)
  obtain ⟨mi, hmi, hon, hpair⟩ := C.fine i o hio
  have hpair := hpair hiM
  have hNM := C.nm
  have hbit : ∀ k, k ≠ i → bitB mi k = true → listed.getD k false = true := by
    intro k hk hb
    rcases hmask' i mi k hmi hb (.inr rfl) with h | h
    · exact h
    · exact absurd h hk
  have hpl := (C.posLt i hin).1
  -- behind N nothing is ready
  have hposN : posOf poss i ≤ N := by
    rcases Nat.lt_or_ge N (posOf poss i) with hgt | hle
    · exfalso
      have hMs : ops.size ≤ M := by
        rcases Nat.lt_or_ge M ops.size with h | h
        · have := (C.tail h).1; omega
        · exact h
      obtain ⟨i0, o0, m0, z1, z2, z3, z4, z5, _⟩ := C.stop (by omega) hMs
      have hb := z5 i o mi hio hgt hmi
      have h1 := hbit i0 (fun e => by subst e; omega) hb
      have := I.bnd i0 h1
      omega
    · exact hle
  -- one slot has one writer
  have uniq : ∀ (k k' : Nat) (ok ok' : Oper) (t : Nat), ops[k]? = some ok → ops[k']? = some ok' → posOf poss k < M → posOf poss k' < M → ok.dst = some t → ok'.dst = some t → k = k' := by
    intro k k' ok ok' t h1 h2 b1 b2 h3 h4
    obtain ⟨mk, _, _, hp⟩ := C.fine k ok h1
    obtain ⟨mk', _, hp2, _⟩ := hp b1 k' ok' h2 b2
    unfold pairFine at hp2
    rw [cond_beq] at hp2
    by_cases hkk : k = k'
    · exact hkk
    · rw [if_neg hkk, h4, h3] at hp2
      simp at hp2
  have readsG : smallT (readsOf ops o) = true → ∀ t ∈ readsOf ops o, Rel E (T.get .bad (pa t) (regAt es rf (posOf poss i))) (a.tmps.getD t undef) := by
    intro hsm t ht
    have htop : t ≤ top := by
      have := List.all_eq_true.1 hsm t ht
      exact Nat.le_of_ble_eq_true this
    have order' : ∀ (k : Nat) (ok : Oper), k ≠ i → posOf poss k < M → ops[k]? = some ok → ok.dst = some t → ∃ mk, (masksFrom [] ops.toList)[k]? = some mk ∧ (posOf poss k < posOf poss i → bitB mi k = true) ∧ (¬ posOf poss k < posOf poss i → bitB mk i = true) := by
      intro k ok hk hkM hok hd
      obtain ⟨mk, q1, q2, _⟩ := hpair k ok hok hkM
      refine ⟨mk, q1, ?_⟩
      unfold pairFine at q2
      rw [cond_beq, if_neg (fun e => hk e.symm), hd] at q2
      simp only [Bool.and_eq_true] at q2
      have q3 := q2.1
      rw [show (readsOf ops o).contains t = true from by simpa using ht] at q3
      simp only [cond_true] at q3
      refine ⟨fun hlt => ?_, fun hge => ?_⟩
      · rw [show Nat.blt (posOf poss k) (posOf poss i) = true from by rw [Nat.blt_eq]; exact hlt] at q3
        exact q3
      · rw [show Nat.blt (posOf poss k) (posOf poss i) = false from by rw [← Bool.not_eq_true, Nat.blt_eq]; exact hge] at q3
        exact q3
    rcases C.regs (posOf poss i) hposN t htop with ⟨k, ok, ek, q1, q2, q3, q4, q5⟩ | ⟨q1, q2⟩
    · obtain ⟨mk, _, o1, _⟩ := order' k ok (fun e => by subst e; omega) (by omega) q2 q3
      have hlk := hbit k (fun e => by subst e; omega) (o1 q1)
      rcases hregs t htop with ⟨k', ok', ek', p1, p2, p3, p4, p5⟩ | ⟨p1, _⟩
      · have := uniq k k' ok ok' t q2 p2 (by omega) (by have := I.bnd k' p1; omega) q3 p3
        subst this
        rw [q4] at p4; cases p4
        rw [q5]; exact p5
      · exact absurd q3 (p1 k ok hlk q2)
    · rcases hregs t htop with ⟨k', ok', ek', p1, p2, p3, p4, p5⟩ | ⟨_, p2⟩
      · have hki : k' ≠ i := fun e => hnot (e ▸ p1)
        obtain ⟨mk, m1, _, o2⟩ := order' k' ok' hki (by have := I.bnd k' p1; omega) p2 p3
        by_cases hlt : posOf poss k' < posOf poss i
        · exact absurd p3 (q1 k' ok' hlt p2)
        · exact absurd (hmask k' mk i m1 (o2 hlt) p1) hnot
      · rw [q2]; exact p2
  -- a level begins at what is not done
  have level : isEff P o.op = true → s ≤ posOf poss i → s = posOf poss i ∧ isAlloc o = false := by
    intro heff hle
    rcases C.sts s hs with (h | ⟨h, hMN⟩) | ⟨k, ok, k1, k2, k3⟩
    · omega
    · omega
    · have hnk : ¬ listed.getD k false = true := fun h => by have := (hlev k ok k1 k2).1 h; omega
      have hkl := (Array.getElem?_eq_some_iff.1 k1).1
      by_cases hki : k = i
      · subst hki
        rw [hio] at k1; cases k1
        refine ⟨k3, ?_⟩
        unfold isChain at k2
        simpa [heff] using k2
      · have hlt : posOf poss k < posOf poss i := by
          have : posOf poss k ≠ posOf poss i := fun e => hki (C.posInj hkl hin e)
          omega
        obtain ⟨mk, _, _, q3⟩ := hpair k ok k1 (by omega)
        rcases q3 heff k2 hlt with h | ⟨g1, g2, g3⟩
        · exact absurd (hbit k hki h) hnk
        · exact absurd (hins g1 o k ok hio g2 k1 g3 hlt) hnk
  rcases Nat.lt_or_ge (posOf poss i) N with hltN | hgeN
  case inr =>
    have hpe : posOf poss i = N := by omega
    have hMs : ops.size ≤ M := by
      rcases Nat.lt_or_ge M ops.size with h | h
      · have := (C.tail h).1; omega
      · exact h
    obtain ⟨i0, o0, m0, z1, z2, z3, z4, z5, z6, v, h', z7⟩ := C.stop (by omega) hMs
    have hii : i0 = i := C.posInj (Array.getElem?_eq_some_iff.1 z1).1 hin (by rw [z2, hpe])
    subst hii
    rw [hio] at z1; cases z1
    rw [hmi] at z4; cases z4
    obtain ⟨heff, hna⟩ := mayPan_chain z3
    have hchain : isChain P o = true := by unfold isChain; rw [heff, hna]; rfl
    have hsi : s ≤ posOf poss i0 := by
      rcases Nat.lt_or_ge (posOf poss i0) s with h | h
      · exact absurd ((hlev i0 o hio hchain).2 h) hnot
      · exact h
    have hse := (level heff hsi).1
    have hF : F = w0 := hheld.none fun k hk => by
      obtain ⟨ok, q1, q2, q3, q4⟩ := hk
      have hki : k ≠ i0 := fun e => by subst e; omega
      exact q3 (hbit k hki (z6 k ok q1 q2.1 (by omega)))
    subst hF
    have hnone : es[N]? = none := List.getElem?_eq_none (by rw [C.len]; exact Nat.le_refl _)
    have hreads := readsG (dopC_fine' z7).2
    rw [hpe] at hreads
    simp only [regAt, hnone] at hreads
    rw [hse, hpe] at hsim
    simp only [heapAt, hnone] at hsim
    refine dop_pan hN (hcall i0) (hbody i0) hio z7 z3 I.size hreads hsim fun E' x w' q1 q2 q3 => hQ E' a w' x v h' (hE.trans q1) (by omega) hMs ⟨i0, o, hio, hpe, z7⟩ ⟨I.size, fun t ht => ?_⟩ I.defers q2 q3
    rcases eraseR_get (r := r0) ht (l := ops.toList) with h | ⟨h1, h2⟩
    · rw [h]; simp [Rel]
    · rw [h1]
      rcases hregs t ht with ⟨k, ok, ek, p1, p2, p3, p4, p5⟩ | ⟨p1, p2⟩
      · exact absurd p3 (h2 ok (by rw [← Array.getElem?_toList] at p2; exact List.mem_of_getElem? p2))
      · exact Rel.mono q1 _ _ p2
  obtain ⟨e, hes, hrun, hregn⟩ := C.step i o hio hltN
  have hfine := dopC_fine hrun
  have hei : regAt es rf (posOf poss i) = e.r := by simp [regAt, hes]
  have hhi : heapAt es hf (posOf poss i) = e.h := by simp [heapAt, hes]
  have reads := readsG hfine.2
  rw [hei] at reads
  have hli : i < listed.size := by rw [I.lsize]; exact hin
  -- what stands afterwards
  have after : ∀ (s' : Nat) (F' : Fr) (E' : Env) (x : Value) (w' : World), s' ∈ starts → s' ≤ N → (∀ k ok, ops[k]? = some ok → isChain P ok = true → ((k = i ∨ listed.getD k false = true) ↔ posOf poss k < s')) →
      (∀ k ok, ops[k]? = some ok → isAlloc ok = true → (k = i ∨ listed.getD k false = true) → posOf poss k < s') →
      Holds w0 F' es hf poss (Held ops es hf poss (listed.setIfInBounds i true) s') → E.le E' → Rel E' e.v x → Sim F' E' (heapAt es hf s') w' →
      DInv P w0 nt ops es r0 hf starts poss E0 N D (listed.setIfInBounds i true) (a.put o.dst x) w' := by
    intro s' F' E' x w' hs' hsn' hl' hal' hh' hle hx hsim'
    refine ⟨by simp [I.lsize], by cases h : o.dst <;> simp [Act.put, I.size], by cases h : o.dst <;> simp [Act.put, I.defers], fun k hk => by
      rcases (getD_set hli).1 hk with rfl | hk
      · exact hltN
      · exact I.bnd k hk, ?_, E', s', F', hE.trans hle, hs', hsn', fun k ok h1 h2 => by rw [getD_set hli]; exact hl' k ok h1 h2,
      fun k ok h1 h2 h3 => hal' k ok h1 h2 ((getD_set hli).1 h3), hh', hsim', fun t ht => ?_⟩
    · intro k ok e' hk hok he' hb
      rw [getD_set hli] at hk ⊢
      rcases hD' k ok e' hk.symm hok he' hb with h | h
      · exact .inr h
      · exact .inl h
    · by_cases hd : o.dst = some t
      · refine .inl ⟨i, o, e, by rw [getD_set hli]; exact .inl rfl, hio, hd, hes, ?_⟩
        have hlt : t < a.tmps.size := by
          have := hfine.1
          rw [hd] at this
          simp only [dstFine, Bool.and_eq_true, Nat.blt_eq] at this
          rw [I.size]; exact this.1
        rw [hd]
        simp only [Act.put]
        rw [Array.getD_eq_getD_getElem?, Array.getElem?_setIfInBounds, if_pos rfl, if_pos hlt]
        exact hx
      · have hput : (a.put o.dst x).tmps.getD t undef = a.tmps.getD t undef := by
          cases hod : o.dst with
          | none => rfl
          | some d =>
            simp only [Act.put]
            rw [Array.getD_eq_getD_getElem?, Array.getD_eq_getD_getElem?, Array.getElem?_setIfInBounds, if_neg (fun e => hd (by rw [hod, e]))]
        rw [hput]
        rcases hregs t ht with ⟨k, ok, ek, p1, p2, p3, p4, p5⟩ | ⟨p1, p2⟩
        · exact .inl ⟨k, ok, ek, by rw [getD_set hli]; exact .inr p1, p2, p3, p4, Rel.mono hle _ _ p5⟩
        · refine .inr ⟨fun k ok hk hok => ?_, Rel.mono hle _ _ p2⟩
          rw [getD_set hli] at hk
          rcases hk with rfl | hk
          · rw [hio] at hok; cases hok; exact hd
          · exact p1 k ok hk hok
  -- what is held hangs on what makes blocks alone
  have heldSame : ¬ (isAlloc o = true ∧ Made es hf poss i) → ∀ s' k, Held ops es hf poss (listed.setIfInBounds i true) s' k ↔ Held ops es hf poss listed s' k := by
    intro ha s' k
    constructor
    · rintro ⟨ok, q1, q2, q3, q4⟩
      exact ⟨ok, q1, q2, fun h => q3 ((getD_set hli).2 (.inr h)), q4⟩
    · rintro ⟨ok, q1, q2, q3, q4⟩
      refine ⟨ok, q1, q2, fun h => ?_, q4⟩
      rcases (getD_set hli).1 h with rfl | h
      · rw [hio] at q1; cases q1; exact ha q2
      · exact q3 h
  cases heff : isEff P o.op with
  | true =>
    cases ha : isAlloc o with
    | true =>
      have hlt : posOf poss i < s := by
        rcases Nat.lt_or_ge (posOf poss i) s with h | h
        · exact h
        · have := (level heff h).2
          rw [ha] at this; cases this
      by_cases hm : Made es hf poss i
      case neg =>
        have hrun' : (dopC P nt ops o).run (calls i) e.r (heapAt es hf s) = .val e.v (heapAt es hf s) := by
          rcases dop_shape ha hrun with ⟨kk, k1, _⟩ | ⟨_, k1⟩
          · exact absurd (show Made es hf poss i from by unfold Made; rw [k1, hhi]; exact Nat.succ_ne_self _) hm
          · exact k1 _
        refine dop_sound hN (hcall i) (hbody i) hio hrun' I.size reads hsim fun E' x w' q1 q2 q3 => hK _ _ (after s F E' x w' hs hsn (fun k ok hok hkc => ?_) (fun k ok hok hka hk => ?_) (hheld.congr fun k => heldSame (fun h => hm h.2) s k) q1 q2 q3)
        · constructor
          · rintro (rfl | h)
            · rw [hio] at hok; cases hok
              unfold isChain at hkc
              rw [ha] at hkc
              simp at hkc
            · exact (hlev k ok hok hkc).1 h
          · intro h
            exact .inr ((hlev k ok hok hkc).2 h)
        · rcases hk with rfl | hk
          · exact hlt
          · exact hall k ok hok hka hk
      have hH : Held ops es hf poss listed s i := ⟨o, hio, ⟨ha, hm⟩, hnot, hlt⟩
      have hmade : (heapAt es hf (posOf poss i + 1)).next ≠ e.h.next := by rw [← hhi]; exact hm
      have hnm : nameAt es hf poss i = pa e.h.next := by unfold nameAt; rw [hhi]
      have hpd := (hheld.new i hH).1
      have hw0 := (hheld.new i hH).2
      have hblk : blkAt es hf poss i = (heapAt es hf (posOf poss i + 1)).get (pa e.h.next) := by unfold blkAt; rw [hnm]
      rw [hnm, hblk] at hpd
      refine dop_link hio ha hrun I.size reads hsim hmade hpd fun E' x w' q1 q2 q3 => hK _ _ (after s (F.free (pa e.h.next)) E' x w' hs hsn (fun k ok hok hkc => ?_) (fun k ok hok hka hk => ?_) ?_ q1 q2 q3)
      · constructor
        · rintro (rfl | h)
          · rw [hio] at hok; cases hok
            unfold isChain at hkc
            rw [ha] at hkc
            simp at hkc
          · exact (hlev k ok hok hkc).1 h
        · intro h
          exact .inr ((hlev k ok hok hkc).2 h)
      · rcases hk with rfl | hk
        · exact hlt
        · exact hall k ok hok hka hk
      · have sub : ∀ k, Held ops es hf poss (listed.setIfInBounds i true) s k → Held ops es hf poss listed s k ∧ k ≠ i := by
          rintro k ⟨ok, q1, q2, q3, q4⟩
          refine ⟨⟨ok, q1, q2, fun h => q3 ((getD_set hli).2 (.inr h)), q4⟩, fun e => q3 ((getD_set hli).2 (.inl e))⟩
        refine ⟨hheld.w, fun b hb => ?_, fun k hk => ?_, fun k k' hk hk' => hheld.inj k k' (sub k hk).1 (sub k' hk').1⟩
        · by_cases hbi : b = pa e.h.next
          · subst hbi
            simp only [Fr.free, if_true]
            rw [← hnm, hw0]
          · simp only [Fr.free, if_neg hbi]
            refine hheld.old b fun k hk => ?_
            by_cases hki : k = i
            · subst hki; rw [hnm]; exact fun e => hbi e.symm
            · obtain ⟨ok, q1, q2, q3, q4⟩ := hk
              refine hb k ⟨ok, q1, q2, fun h => ?_, q4⟩
              rcases (getD_set hli).1 h with h | h
              · exact hki h
              · exact q3 h
        · obtain ⟨hk1, hki⟩ := sub k hk
          have hne : nameAt es hf poss k ≠ pa e.h.next := fun e => hki (hheld.inj k i hk1 hH (by rw [e, hnm]))
          simp only [Fr.free, if_neg hne]
          exact hheld.new k hk1
    | false =>
      have hchain : isChain P o = true := by unfold isChain; rw [heff, ha]; rfl
      have hsi : s ≤ posOf poss i := by
        rcases Nat.lt_or_ge (posOf poss i) s with h | h
        · exact absurd ((hlev i o hio hchain).2 h) hnot
        · exact h
      have hse := (level heff hsi).1
      rw [← hhi, ← hse] at hrun
      refine dop_sound hN (hcall i) (hbody i) hio hrun I.size reads hsim fun E' x w' q1 q2 q3 => ?_
      rw [hse] at q3
      have hlists : ∀ k ok, ops[k]? = some ok → isAlloc ok = true → posOf poss i + 1 ≤ posOf poss k → ¬ (listed.setIfInBounds i true).getD k false = true := by
        intro k ok hok hka hp h
        rcases (getD_set hli).1 h with rfl | h
        · omega
        · have := hall k ok hok hka h
          omega
      have hheld1 : Holds w0 F es hf poss (Held ops es hf poss (listed.setIfInBounds i true) (posOf poss i + 1)) := by
        refine hheld.congr fun k => ?_
        rw [heldSame (fun h => by rw [ha] at h; cases h.1)]
        constructor
        · rintro ⟨ok, z1, z2, z3, z4⟩
          refine ⟨ok, z1, z2, z3, ?_⟩
          have hkl := (Array.getElem?_eq_some_iff.1 z1).1
          have : posOf poss k ≠ posOf poss i := fun e => by
            have := C.posInj hkl hin e
            subst this
            rw [hio] at z1; cases z1
            rw [ha] at z2; cases z2.1
          omega
        · rintro ⟨ok, z1, z2, z3, z4⟩
          exact ⟨ok, z1, z2, z3, by omega⟩
      obtain ⟨s', F', g1, g2, g3, g4, g5, g6⟩ := C.advance (N - (posOf poss i + 1)) (posOf poss i + 1) (by omega) hlists F hheld1 q3
      refine hK _ _ (after s' F' E' x w' g1 g3 (fun k ok hok hkc => ?_) (fun k ok hok hka hk => ?_) g5 q1 q2 g6)
      · have hkl := (Array.getElem?_eq_some_iff.1 hok).1
        constructor
        · rintro (rfl | h)
          · omega
          · have := (hlev k ok hok hkc).1 h
            omega
        · intro h
          by_cases hki : k = i
          · exact .inl hki
          · refine .inr ((hlev k ok hok hkc).2 ?_)
            rcases Nat.lt_or_ge (posOf poss k) s with hh | hh
            · exact hh
            · have hne : posOf poss k ≠ posOf poss i := fun e => hki (C.posInj hkl hin e)
              have := g4 k ok hok hkc (by omega)
              omega
      · rcases hk with rfl | hk
        · omega
        · have := hall k ok hok hka hk
          omega
  | false =>
    have ha : isAlloc o = false := by
      cases h : isAlloc o with
      | false => rfl
      | true => rw [isAlloc_eff h] at heff; cases heff
    obtain ⟨c, hc, hrun'⟩ : ∃ c, (CallOk P c ∧ CallBody P c) ∧ (dopC P nt ops o).run c e.r (heapAt es hf s) = .val e.v (heapAt es hf s) := by
      cases hlo : looks o.op with
      | false => exact ⟨_, ⟨hcall i, hbody i⟩, (dop_quiet heff hrun).2 hlo _⟩
      | true =>
        obtain ⟨e', q1, q2⟩ := C.ask i o hio hlo heff hltN
        rw [hes] at q1; cases q1
        obtain ⟨c, h', hc, q3⟩ := q2 s hs (zipAll_mk (by rw [masksFrom_length]; simp) fun k mk ok h1 h2 => by
          simp only [Nat.zero_add]
          have hok : ops[k]? = some ok := by simpa using h2
          cases hke : isChain P ok with
          | false => rfl
          | true =>
            simp only [cond_true]
            cases hks : Nat.blt (posOf poss k) s with
            | true =>
              rw [Nat.blt_eq] at hks
              simp only [cond_true, Bool.not_eq_true']
              cases hb : bitB mk i with
              | false => rfl
              | true => exact absurd (hmask k mk i h1 hb ((hlev k ok hok hke).2 hks)) hnot
            | false =>
              have hks' : ¬ posOf poss k < s := by rw [← Nat.blt_eq, hks]; simp
              simp only [cond_false, Bool.not_eq_true', hmi, Option.getD_some]
              cases hb : bitB mi k with
              | false => rfl
              | true =>
                by_cases hki : k = i
                · subst hki
                  rw [hio] at hok; cases hok
                  unfold isChain at hke
                  rw [heff] at hke; cases hke
                · exact absurd ((hlev k ok hok hke).1 (hbit k hki hb)) hks')
        rw [(dop_quiet heff q3).1] at q3
        exact ⟨c, hc, q3⟩
    refine dop_sound hN hc.1 hc.2 hio hrun' I.size reads hsim fun E' x w' q1 q2 q3 => hK _ _ (after s F E' x w' hs hsn (fun k ok hok hkc => ?_) (fun k ok hok hka hk => ?_) (hheld.congr fun k => heldSame (fun h => by rw [ha] at h; cases h.1) s k) q1 q2 q3)
    · constructor
      · rintro (rfl | h)
        · rw [hio] at hok; cases hok
          unfold isChain at hkc
          rw [heff] at hkc; cases hkc
        · exact (hlev k ok hok hkc).1 h
      · intro h
        exact .inr ((hlev k ok hok hkc).2 h)
    · rcases hk with rfl | hk
      · rw [hio] at hok; cases hok; rw [ha] at hka; cases hka
      · exact hall k ok hok hka hk

theorem dinv_full {D : List Deferred} {w0 : Fr} (C : Cert P nt ops calls es r0 h0 rf hf starts order poss N M lit) {E0 : Env} (hNM : N ≤ M) {listed : Array Bool} {a : Act} {w : World} (I : DInv P w0 nt ops es r0 hf starts poss E0 N D listed a w)
    (hall : ∀ k, k < ops.size → posOf poss k < N → listed.getD k false = true) : ∃ E', E0.le E' ∧ RegRel0 E' nt rf a ∧ a.defers = D ∧ Sim w0 E' hf w := by
  obtain ⟨E, s, F, hE, hs, hsn, hlev, _, hheld, hsim, hregs⟩ := I.main
  have hnone : es[N]? = none := List.getElem?_eq_none (by rw [C.len]; exact Nat.le_refl _)
  have hheap : heapAt es hf N = hf := by simp [heapAt, hnone]
  have hregf : regAt es rf N = rf := by simp [regAt, hnone]
  have hse : s = N := by
    rcases C.sts s hs with (h | ⟨h, _⟩) | ⟨k, ok, k1, k2, k3⟩
    · have := C.nle; omega
    · exact h
    · rcases Nat.lt_or_ge s N with hlt | hge
      · have := (hlev k ok k1 k2).1 (hall k (Array.getElem?_eq_some_iff.1 k1).1 (by omega))
        omega
      · omega
  subst hse
  have hF : F = w0 := hheld.none fun k hk => by
    obtain ⟨ok, q1, q2, q3, q4⟩ := hk
    exact q3 (hall k (Array.getElem?_eq_some_iff.1 q1).1 q4)
  subst hF
  rw [hheap] at hsim
  have hMN : ∀ k, posOf poss k < s → posOf poss k < M := fun k h => by omega
  refine ⟨E, hE, ⟨I.size, fun t ht => ?_⟩, I.defers, hsim⟩
  have huniq : ∀ (k k' : Nat) (ok ok' : Oper), ops[k]? = some ok → ops[k']? = some ok' → posOf poss k < s → posOf poss k' < s → ok.dst = some t → ok'.dst = some t → k = k' := by
    intro k k' ok ok' h1 h2 b1 b2 h3 h4
    obtain ⟨mk, _, _, hp⟩ := C.fine k ok h1
    obtain ⟨mk', _, hp2, _⟩ := hp (hMN k b1) k' ok' h2 (hMN k' b2)
    unfold pairFine at hp2
    rw [cond_beq] at hp2
    by_cases hkk : k = k'
    · exact hkk
    · rw [if_neg hkk, h4, h3] at hp2
      simp at hp2
  rcases C.regs s (Nat.le_refl _) t ht with ⟨k, ok, ek, q1, q2, q3, q4, q5⟩ | ⟨q1, q2⟩
  · rw [hregf] at q5
    rcases hregs t ht with ⟨k', ok', ek', p1, p2, p3, p4, p5⟩ | ⟨p1, _⟩
    · have := huniq k k' ok ok' q2 p2 q1 (I.bnd k' p1) q3 p3
      subst this
      rw [q4] at p4; cases p4
      rw [q5]; exact p5
    · exact absurd q3 (p1 k ok (hall k (Array.getElem?_eq_some_iff.1 q2).1 q1) q2)
  · rw [hregf] at q2
    rcases hregs t ht with ⟨k', ok', ek', p1, p2, p3, p4, p5⟩ | ⟨_, p2⟩
    · exact absurd p3 (q1 k' ok' (I.bnd k' p1) p2)
    · rw [q2]; exact p2

theorem draw_any {rd : Option Nat} {D : List Deferred} {w0 : Fr} (hN : NamesOk P) (hcall : ∀ i, CallOk P (calls i)) (hbody : ∀ i, CallBody P (calls i)) (C : Cert P nt ops calls es r0 h0 rf hf starts order poss N M false) {E0 : Env} {Q : Exit → Act → World → Prop}
    (hQ : N = ops.size → ∀ E' a' w', E0.le E' → RegRel0 E' nt rf a' → a'.defers = D → Sim w0 E' hf w' → Q .normal a' w')
    (hP : ∀ E' a' w' x v h', E0.le E' → N < ops.size → ops.size ≤ M → (∃ i0 o0, ops[i0]? = some o0 ∧ posOf poss i0 = N ∧ (dopC P nt ops o0).run (calls i0) rf hf = .pan v h') → RegRel0 E' nt (eraseR r0 ops.toList) a' → a'.defers = D → Rel E' v x → Sim w0 E' h' w' → Q (.panic (panic1 x)) a' w')
    (hT : M < ops.size → ∀ (fuel : Nat) (listed : Array Bool) E' a' w', (List.range ops.size).countP (fun i => !listed.getD i false) ≤ fuel → listed.size = ops.size → DownP ops (fun k => listed.getD k false = true) → (∀ k, k < ops.size → (listed.getD k false = true ↔ posOf poss k < N)) →
      E0.le E' → RegRel0 E' nt rf a' → a'.defers = D → Sim w0 E' hf w' → wpAnyIn (Wd rd) 0 P .any ops Q fuel listed a' w') : ∀ (fuel : Nat) (listed : Array Bool) (a : Act) (w : World), (List.range ops.size).countP (fun i => !listed.getD i false) ≤ fuel →
    DInv P w0 nt ops es r0 hf starts poss E0 N D listed a w → wpAnyIn (Wd rd) 0 P .any ops Q fuel listed a w := by
  -- where nothing is ready all is done
  have done : ∀ (listed : Array Bool) (a : Act) (w : World), DInv P w0 nt ops es r0 hf starts poss E0 N D listed a w → Region.ready .any ops listed = [] → ∀ i, i < ops.size → listed.getD i false = true := by
    intro listed a w I hr i
    induction i using Nat.strongRecOn with
    | _ i ih =>
      intro hi
      cases hli : listed.getD i false with
      | true => rfl
      | false =>
        exfalso
        have hio : ops[i]? = some ops[i] := Array.getElem?_eq_getElem hi
        obtain ⟨mi, _, hon, _⟩ := C.fine i _ hio
        have : i ∈ Region.ready .any ops listed := by
          rw [mem_ready]
          refine ⟨?_, ops[i], hio, fun e he hb => ?_⟩
          · have hsz : i < listed.size := by rw [I.lsize]; exact hi
            rw [Array.getD_eq_getD_getElem?, Array.getElem?_eq_getElem hsz] at hli ⊢
            exact hli
          · have h1 := List.all_eq_true.1 hon e (Array.mem_toList_iff.2 he)
            rw [binds_eq] at hb
            rw [hb] at h1
            simp only [Bool.not_true, Bool.false_or, Nat.blt_eq] at h1
            exact ih e.on h1 (by omega)
        rw [hr] at this
        simp at this
  have hNM := C.nm
  have full : ∀ (listed : Array Bool) (a : Act) (w : World), DInv P w0 nt ops es r0 hf starts poss E0 N D listed a w → (∀ k, k < ops.size → posOf poss k < N → listed.getD k false = true) → (N = ops.size ∨ (M < ops.size ∧ M = N)) →
      ∃ E', E0.le E' ∧ RegRel0 E' nt rf a ∧ a.defers = D ∧ Sim w0 E' hf w := fun _ _ _ I hall _ => dinv_full C hNM I hall
  have finish : ∀ (listed : Array Bool) (a : Act) (w : World), DInv P w0 nt ops es r0 hf starts poss E0 N D listed a w → Region.ready .any ops listed = [] → Q .normal a w := by
    intro listed a w I hr
    have hall := done listed a w I hr
    have hNs : N = ops.size := by
      rcases Nat.lt_or_ge N ops.size with hlt | hge
      · exfalso
        obtain ⟨i, hi1, hi2⟩ := C.ordAt N hlt
        have := I.bnd i (hall i hi1)
        omega
      · exact Nat.le_antisymm C.nle hge
    obtain ⟨E', g1, g2, g3, g4⟩ := full listed a w I (fun k hk _ => hall k hk) (.inl hNs)
    exact hQ hNs E' a w g1 g2 g3 g4
  intro fuel
  induction fuel with
  | zero =>
    intro listed a w hc I
    have hall : ∀ i, i < ops.size → listed.getD i false = true := by
      intro i hi
      have h0 : (List.range ops.size).countP (fun i => !listed.getD i false) = 0 := by omega
      rw [List.countP_eq_zero] at h0
      simpa using h0 i (List.mem_range.2 hi)
    have hr : Region.ready .any ops listed = [] := by
      cases hq : Region.ready .any ops listed with
      | nil => rfl
      | cons j js =>
        exfalso
        have hj : j ∈ Region.ready .any ops listed := by rw [hq]; simp
        rw [mem_ready] at hj
        obtain ⟨h1, o, h2, _⟩ := hj
        have := hall j (Array.getElem?_eq_some_iff.1 h2).1
        rw [getD_iff] at this
        rw [Array.getD_eq_getD_getElem?, this] at h1
        simp at h1
    exact ⟨hr, finish listed a w I hr⟩
  | succ fuel ih =>
    intro listed a w hc I
    -- behind N: the tail
    by_cases htl : M < ops.size ∧ ∀ k, k < ops.size → posOf poss k < N → listed.getD k false = true
    · obtain ⟨hM1, hall⟩ := htl
      obtain ⟨E', g1, g2, g3, g4⟩ := full listed a w I hall (.inr ⟨hM1, (C.tail hM1).1⟩)
      exact hT hM1 (fuel + 1) listed E' a w hc I.lsize I.down (fun k hk => ⟨I.bnd k, hall k hk⟩) g1 g2 g3 g4
    have hready : ∀ i, i ∈ Region.ready .any ops listed → posOf poss i < M := by
      intro i hi
      have hi2 := hi
      rw [mem_ready] at hi2
      obtain ⟨h1, o, h2, hedges⟩ := hi2
      have hin : i < ops.size := (Array.getElem?_eq_some_iff.1 h2).1
      rcases Nat.lt_or_ge M ops.size with hM1 | hM1
      · obtain ⟨hMN, htail⟩ := C.tail hM1
        rcases Nat.lt_or_ge (posOf poss i) N with hlt | hge
        · omega
        · exfalso
          refine htl ⟨hM1, fun k hk hkN => ?_⟩
          obtain ⟨mi, hmi, _⟩ := C.fine i o h2
          have hb := htail i o mi h2 hge hmi k hk hkN
          have hD' : DownP ops fun k => listed.getD k false = true ∨ k = i := by
            intro k ok e hk hok he hb
            rcases hk with hk | rfl
            · exact .inl (I.down k ok e hk hok he hb)
            · rw [h2] at hok; cases hok
              exact .inl (hedges e (Array.mem_toList_iff.1 he) (by rw [binds_eq]; exact hb))
          rcases masksFrom_ok hD' ops.toList [] (fun j => by simp) (fun k m j hk => by simp at hk) i mi k hmi hb (.inr rfl) with h | h
          · exact h
          · subst h; omega
      · have := (C.posLt i hin).1
        omega
    refine ⟨fun hr => finish listed a w I hr, fun i hi => ?_⟩
    refine draw_step hN hcall hbody C I hi (hready i hi) (fun h => by cases h) (fun a' w' I' => ih _ a' w' ?_ I') hP
    have hi2 := hi
    rw [mem_ready] at hi2
    obtain ⟨h1, o, h2, _⟩ := hi2
    have hin : i < ops.size := (Array.getElem?_eq_some_iff.1 h2).1
    have hli : i < listed.size := by rw [I.lsize]; exact hin
    have hnot : listed.getD i false = false := by
      rw [Array.getD_eq_getD_getElem?, Array.getElem?_eq_getElem hli] at h1 ⊢
      exact h1
    have := countP_lt (fun k => !listed.getD k false) (fun k => !(listed.setIfInBounds i true).getD k false) (List.range ops.size)
      (fun k _ hk => by
        simp only [Bool.not_eq_true'] at hk ⊢
        cases hq : listed.getD k false with
        | false => rfl
        | true =>
          have := (getD_set (k := k) hli).2 (.inr hq)
          rw [hk] at this
          cases this)
      ⟨i, List.mem_range.2 hin, by simp [hnot], by
        have := (getD_set (k := i) hli).2 (.inl rfl)
        simp [this]⟩
    omega

/-! The last two operations, stores that may come either way round. -/
theorem Heap.set_comm (h : Heap) {b b' : Pa} (hne : b ≠ b') (k k' : Blk) : (h.set b k).set b' k' = (h.set b' k').set b k := by
  unfold Heap.set
  simp only
  rw [T.put_comm _ _ _ _ _ _ (fun e => hne e.symm)]

theorem storePtr_eq {o : Oper} {x : Operand} (h : storePtr o = some x) : ∃ t y, o.op = .store t x y ∧ o.dst = none ∧ o.guard = none := by
  unfold storePtr at h
  split at h
  case h_2 => cases h
  rename_i t x' y ho
  split at h
  case h_2 => cases h
  rename_i hd
  split at h
  case h_2 => cases h
  rename_i hg
  cases h
  exact ⟨t, y, ho, hd, hg⟩

theorem lay_shape {h h' : Heap} {b : Pa} {off : Nat} {vs : List V} (he : lay h b off vs = some h') : ∃ k, h' = h.set b k ∧ ∀ H : Heap, H.get b = h.get b → lay H b off vs = some (H.set b k) := by
  unfold lay at he ⊢
  cases hg : h.get b <;> rw [hg] at he <;> simp only [Blk.on] at he <;> try (cases he; done)
  obtain ⟨hc, h1⟩ := cond_some he
  cases h1
  refine ⟨_, rfl, fun H hH => ?_⟩
  rw [hH]
  simp only [Blk.on, hc, cond_true]

theorem dop_store {all : Array Oper} {o : Oper} {x : Operand} {call : CallF} {r : Regs} {h h' : Heap} {v : V} (hx : storePtr o = some x) (he : (dopC P nt all o).run call r h = .val v h') :
    ∃ b off k, (evC x).run (trimR r (readsOf all o)) = .ptr b off ∧ h' = h.set b k ∧ ∀ H : Heap, H.get b = h.get b → (dopC P nt all o).run call r H = .val v (H.set b k) := by
  obtain ⟨t, y, ho, hd, hg⟩ := storePtr_eq hx
  obtain ⟨h1, h2⟩ := dopC_fine he
  have key : dopC P nt all o = ⟨dopRun none (cop P o) (readsOf all o)⟩ := by
    unfold dopC
    rw [show (dstFine nt o.dst && smallT (readsOf all o)) = true from by rw [h1, h2]; rfl, hg]
    rfl
  rw [key] at he ⊢
  simp only [dopRun] at he ⊢
  have hcop : ∀ H, (cop P o).run call (trimR r (readsOf all o)) H = orHeap .bad ((storeC P t).run H ((evC x).run (trimR r (readsOf all o))) ((evC y).run (trimR r (readsOf all o)))) := by
    intro H
    unfold cop
    rw [ho]
  rw [hcop] at he
  cases hs : (storeC P t).run h ((evC x).run (trimR r (readsOf all o))) ((evC y).run (trimR r (readsOf all o))) with
  | none => rw [hs] at he; cases he
  | some h3 =>
    rw [hs] at he
    simp only [orHeap, OR.val.injEq] at he
    obtain ⟨rfl, rfl⟩ := he
    unfold storeC at hs
    cases ht : tiOf P t with
    | none => rw [ht] at hs; cases hs
    | some ti =>
      rw [ht] at hs
      simp only [storeV] at hs
      obtain ⟨b, off, hp, h4⟩ := onPtr_some hs
      obtain ⟨hc, h5⟩ := cond_some h4
      obtain ⟨k, k1, k2⟩ := lay_shape h5
      refine ⟨b, off, k, hp, k1, fun H hH => ?_⟩
      rw [hcop]
      unfold storeC
      rw [ht]
      simp only [storeV, hp, V.onPtr, hc, cond_true, k2 H hH, orHeap]

theorem ready_nil {listed : Array Bool} (hon : ∀ i o, ops[i]? = some o → onFine i o = true) (hsz : listed.size = ops.size) (hr : Region.ready .any ops listed = []) : ∀ i, i < ops.size → listed.getD i false = true := by
  intro i
  induction i using Nat.strongRecOn with
  | _ i ih =>
    intro hi
    cases hli : listed.getD i false with
    | true => rfl
    | false =>
      exfalso
      have hio : ops[i]? = some ops[i] := Array.getElem?_eq_getElem hi
      have hon := hon i _ hio
      have : i ∈ Region.ready .any ops listed := by
        rw [mem_ready]
        refine ⟨?_, ops[i], hio, fun e he hb => ?_⟩
        · have hs : i < listed.size := by rw [hsz]; exact hi
          rw [Array.getD_eq_getD_getElem?, Array.getElem?_eq_getElem hs] at hli ⊢
          exact hli
        · have h1 := List.all_eq_true.1 hon e (Array.mem_toList_iff.2 he)
          rw [binds_eq] at hb
          rw [hb] at h1
          simp only [Bool.not_true, Bool.false_or, Nat.blt_eq] at h1
          exact ih e.on h1 (by omega)
      rw [hr] at this
      simp at this

theorem ready_not {listed : Array Bool} {i : Nat} (_hsz : listed.size = ops.size) (hi : i ∈ Region.ready .any ops listed) : i < ops.size ∧ ¬ listed.getD i false = true := by
  rw [mem_ready] at hi
  obtain ⟨h1, o, h2, _⟩ := hi
  refine ⟨(Array.getElem?_eq_some_iff.1 h2).1, fun h => ?_⟩
  rw [getD_iff] at h
  rw [Array.getD_eq_getD_getElem?, h] at h1
  simp at h1

/-- the last one -/
theorem tail_one {rd : Option Nat} {w0 : Fr} (hN : NamesOk P) (hcall : CallOk P call) (hbody : CallBody P call) (hon : ∀ i o, ops[i]? = some o → onFine i o = true) {i : Nat} {o : Oper} (hio : ops[i]? = some o) (hd : o.dst = none) {r : Regs} {h h' : Heap} {v : V}
    (he : (dopC P nt ops o).run call r h = .val v h') {Q : Exit → Act → World → Prop} {E : Env} {a : Act} {w : World} (k : RegRel E nt r a) (s : Sim w0 E h w) (hQ : ∀ E' w', E.le E' → Sim w0 E' h' w' → Q .normal a w')
    {listed : Array Bool} (hsz : listed.size = ops.size) (hall : ∀ j, j < ops.size → (listed.getD j false = true ↔ j ≠ i)) (fuel : Nat) (hf : 1 ≤ fuel) : wpAnyIn (Wd rd) 0 P .any ops Q fuel listed a w := by
  have hin : i < ops.size := (Array.getElem?_eq_some_iff.1 hio).1
  have hli : i < listed.size := by rw [hsz]; exact hin
  cases fuel with
  | zero => omega
  | succ fuel =>
    refine ⟨fun hr => absurd (ready_nil hon hsz hr i hin) (fun h => ((hall i hin).1 h) rfl), fun j hj => ?_⟩
    obtain ⟨j1, j2⟩ := ready_not hsz hj
    have hji : j = i := by
      rcases Nat.decEq j i with hne | he
      · exact absurd ((hall j j1).2 hne) j2
      · exact he
    subst hji
    refine dop_sound hN hcall hbody hio he k.size (fun t ht => k.reg t (Nat.le_of_ble_eq_true (List.all_eq_true.1 (dopC_fine he).2 t ht))) s fun E' x w' q1 q2 q3 => ?_
    rw [hd]
    refine wpAnyIn_done ?_ (hQ E' w' q1 q3) fuel
    cases hr : Region.ready .any ops (listed.setIfInBounds j true) with
    | nil => rfl
    | cons m ms =>
      exfalso
      have hm : m ∈ Region.ready .any ops (listed.setIfInBounds j true) := by rw [hr]; simp
      obtain ⟨m1, m2⟩ := ready_not (by simp [hsz]) hm
      refine m2 ((getD_set hli).2 ?_)
      by_cases hmj : m = j
      · exact .inl hmj
      · exact .inr ((hall m m1).2 hmj)

theorem tail_two {rd : Option Nat} {w0 : Fr} (hN : NamesOk P) (hcall : CallOk P call) (hbody : CallBody P call) (hon : ∀ i o, ops[i]? = some o → onFine i o = true) {i j : Nat} {o p : Oper} (hio : ops[i]? = some o) (hjp : ops[j]? = some p) (hij : i ≠ j) (hd : o.dst = none) (hpd : p.dst = none)
    {r : Regs} {h h1 h1' h2 : Heap} {v v' u u' : V} (he : (dopC P nt ops o).run call r h = .val v h1) (hp : (dopC P nt ops p).run call r h1 = .val u h2) (hp' : (dopC P nt ops p).run call r h = .val u' h1') (he' : (dopC P nt ops o).run call r h1' = .val v' h2)
    {Q : Exit → Act → World → Prop} {E : Env} {a : Act} {w : World} (k : RegRel E nt r a) (s : Sim w0 E h w) (hQ : ∀ E' w', E.le E' → Sim w0 E' h2 w' → Q .normal a w')
    {listed : Array Bool} (hsz : listed.size = ops.size) (hall : ∀ m, m < ops.size → (listed.getD m false = true ↔ (m ≠ i ∧ m ≠ j))) (fuel : Nat) (hf : 2 ≤ fuel) : wpAnyIn (Wd rd) 0 P .any ops Q fuel listed a w := by
  have hin : i < ops.size := (Array.getElem?_eq_some_iff.1 hio).1
  have hjn : j < ops.size := (Array.getElem?_eq_some_iff.1 hjp).1
  have hreads : ∀ {q : Oper} {H H' : Heap} {z : V}, (dopC P nt ops q).run call r H = .val z H' → ∀ t ∈ readsOf ops q, Rel E (T.get .bad (pa t) r) (a.tmps.getD t undef) :=
    fun he t ht => k.reg t (Nat.le_of_ble_eq_true (List.all_eq_true.1 (dopC_fine he).2 t ht))
  cases fuel with
  | zero => omega
  | succ fuel =>
    refine ⟨fun hr => absurd (ready_nil hon hsz hr i hin) (fun h => ((hall i hin).1 h).1 rfl), fun m hm => ?_⟩
    obtain ⟨m1, m2⟩ := ready_not hsz hm
    have hor : m = i ∨ m = j := by
      rcases Nat.decEq m i with hne | he
      · rcases Nat.decEq m j with hne2 | he2
        · exact absurd ((hall m m1).2 ⟨hne, hne2⟩) m2
        · exact .inr he2
      · exact .inl he
    rcases hor with rfl | rfl
    · refine dop_sound hN hcall hbody hio he k.size (hreads he) s fun E' x w' q1 q2 q3 => ?_
      rw [hd]
      have hli : m < listed.size := by rw [hsz]; exact hin
      refine tail_one hN hcall hbody hon hjp hpd hp (k.mono q1) q3 (fun E2 w2 p1 p2 => hQ E2 w2 (q1.trans p1) p2) (by simp [hsz]) (fun z hz => ?_) fuel (by omega)
      rw [getD_set hli, hall z hz]
      constructor
      · rintro (rfl | h)
        · exact hij
        · exact h.2
      · intro h
        by_cases hzm : z = m
        · exact .inl hzm
        · exact .inr ⟨hzm, h⟩
    · refine dop_sound hN hcall hbody hjp hp' k.size (hreads hp') s fun E' x w' q1 q2 q3 => ?_
      rw [hpd]
      have hli : m < listed.size := by rw [hsz]; exact hjn
      refine tail_one hN hcall hbody hon hio hd he' (k.mono q1) q3 (fun E2 w2 p1 p2 => hQ E2 w2 (q1.trans p1) p2) (by simp [hsz]) (fun z hz => ?_) fuel (by omega)
      rw [getD_set hli, hall z hz]
      constructor
      · rintro (rfl | h)
        · exact fun e => hij e.symm
        · exact h.1
      · intro h
        by_cases hzm : z = m
        · exact .inl hzm
        · exact .inr ⟨h, hzm⟩

theorem wpAnyIn_region {rd : Option Nat} {id : Nat} {a : Act} {w : World} {Q : Exit → Act → World → Prop} (hm : P.follows .mixedOrders = true)
    (h : wpAnyIn (Wd rd) 0 P .any ops Q ops.size (Array.replicate ops.size false) a { w with drawn := w.drawn + 1 }) : (Code.region id ops true).wpIn (Wd rd) 0 P Q a w := by
  refine wpIn_region_draw fun t => ?_
  rw [hm]
  exact wpAnyIn_sound _ _ _ _ _ h

theorem trimR_congr {r r' : Regs} : ∀ {rs : List Nat}, (∀ t ∈ rs, T.get .bad (pa t) r' = T.get .bad (pa t) r) → trimR r' rs = trimR r rs
  | [], _ => rfl
  | t :: ts, h => by
    simp only [trimR]
    rw [h t (by simp), trimR_congr (rs := ts) fun u hu => h u (by simp [hu])]

theorem dopC_congr {all : Array Oper} {o : Oper} {call : CallF} {r r' : Regs} (h : ∀ t ∈ readsOf all o, T.get .bad (pa t) r' = T.get .bad (pa t) r) (H : Heap) : (dopC P nt all o).run call r' H = (dopC P nt all o).run call r H := by
  unfold dopC
  cases hc : (dstFine nt o.dst && smallT (readsOf all o)) with
  | false => rfl
  | true =>
    simp only [cond_true]
    cases hg : o.guard with
    | none => simp only [dopRun, trimR_congr h]
    | some jw =>
      obtain ⟨j, want⟩ := jw
      simp only
      cases all[j]? with
      | none => rfl
      | some g =>
        simp only
        cases g.dst with
        | none => rfl
        | some d =>
          simp only
          cases (Nat.blt d nt && Nat.ble d top) with
          | false => rfl
          | true => simp only [cond_true, dopRun, trimR_congr h]

/-- p, then o (which waits for p) and q, either way round; or q ahead of p -/
theorem tail_three {rd : Option Nat} {w0 : Fr} (hN : NamesOk P) (hcall : CallOk P call) (hbody : CallBody P call) (hon : ∀ i o, ops[i]? = some o → onFine i o = true) {l i j : Nat} {b o p : Oper} (hlb : ops[l]? = some b) (hio : ops[i]? = some o) (hjp : ops[j]? = some p)
    (hli : l ≠ i) (hlj : l ≠ j) (hij : i ≠ j) (hd : o.dst = none) (hpd : p.dst = none) {r r1 : Regs} {h h1 h1' h2 : Heap} {z v v' u u' : V}
    (hb : ∀ H, (dopC P nt ops b).run call r H = .val z H) (hr1 : r1 = (putC b.dst).run r z) (hsame : ∀ t ∈ readsOf ops p, T.get .bad (pa t) r1 = T.get .bad (pa t) r)
    (he : (dopC P nt ops o).run call r1 h = .val v h1) (hp : (dopC P nt ops p).run call r1 h1 = .val u h2) (hp' : (dopC P nt ops p).run call r1 h = .val u' h1') (he' : (dopC P nt ops o).run call r1 h1' = .val v' h2)
    {Q : Exit → Act → World → Prop} {E : Env} {a : Act} {w : World} (k : RegRel E nt r a) (s : Sim w0 E h w) (hQ : ∀ E' a' w', E.le E' → RegRel E' nt r1 a' → Sim w0 E' h2 w' → Q .normal a' w')
    {listed : Array Bool} (hsz : listed.size = ops.size) (hD : DownP ops fun k => listed.getD k false = true) (hwait : ∀ mi, (masksFrom [] ops.toList)[i]? = some mi → bitB mi l = true) (hmi : ∃ mi, (masksFrom [] ops.toList)[i]? = some mi)
    (hall : ∀ m, m < ops.size → (listed.getD m false = true ↔ (m ≠ l ∧ m ≠ i ∧ m ≠ j))) (fuel : Nat) (hf : 3 ≤ fuel) : wpAnyIn (Wd rd) 0 P .any ops Q fuel listed a w := by
  have hln : l < ops.size := (Array.getElem?_eq_some_iff.1 hlb).1
  have hin : i < ops.size := (Array.getElem?_eq_some_iff.1 hio).1
  have hjn : j < ops.size := (Array.getElem?_eq_some_iff.1 hjp).1
  have hreads : ∀ {E : Env} {a : Act} {q : Oper} {R : Regs} {H H' : Heap} {z : V}, RegRel E nt R a → (dopC P nt ops q).run call R H = .val z H' → ∀ t ∈ readsOf ops q, Rel E (T.get .bad (pa t) R) (a.tmps.getD t undef) :=
    fun k he t ht => k.reg t (Nat.le_of_ble_eq_true (List.all_eq_true.1 (dopC_fine he).2 t ht))
  -- the store o is not ready ahead of p
  have notI : ∀ (L : Array Bool), (DownP ops fun k => L.getD k false = true) → ¬ L.getD l false = true → i ∈ Region.ready .any ops L → False := by
    intro L hDL hnl hmem
    rw [mem_ready] at hmem
    obtain ⟨_, o', ho', hedges⟩ := hmem
    rw [hio] at ho'; cases ho'
    obtain ⟨mi, hmi⟩ := hmi
    have hD' : DownP ops fun k => L.getD k false = true ∨ k = i := by
      intro k ok e hk hok he hb
      rcases hk with hk | rfl
      · exact .inl (hDL k ok e hk hok he hb)
      · rw [hio] at hok; cases hok
        exact .inl (hedges e (Array.mem_toList_iff.1 he) (by rw [binds_eq]; exact hb))
    rcases masksFrom_ok hD' ops.toList [] (fun j => by simp) (fun k m j hk => by simp at hk) i mi l hmi (hwait mi hmi) (.inr rfl) with h | h
    · exact hnl h
    · exact hli h
  have downSet : ∀ m, m ∈ Region.ready .any ops listed → DownP ops fun k => (listed.setIfInBounds m true).getD k false = true := by
    intro m hm k ok e hk hok he hb
    have hm2 := hm
    rw [mem_ready] at hm2
    obtain ⟨_, om, hom, hedges⟩ := hm2
    have hml : m < listed.size := by rw [hsz]; exact (Array.getElem?_eq_some_iff.1 hom).1
    rw [getD_set hml] at hk ⊢
    rcases hk with rfl | hk
    · rw [hom] at hok; cases hok
      exact .inr (hedges e (Array.mem_toList_iff.1 he) (by rw [binds_eq]; exact hb))
    · exact .inr (hD k ok e hk hok he hb)
  cases fuel with
  | zero => omega
  | succ fuel =>
    refine ⟨fun hr => absurd (ready_nil hon hsz hr i hin) (fun h => ((hall i hin).1 h).2.1 rfl), fun m hm => ?_⟩
    obtain ⟨m1, m2⟩ := ready_not hsz hm
    have hor : m = l ∨ m = j := by
      rcases Nat.decEq m l with n1 | e1
      · rcases Nat.decEq m j with n2 | e2
        · rcases Nat.decEq m i with n3 | e3
          · exact absurd ((hall m m1).2 ⟨n1, n3, n2⟩) m2
          · subst e3
            exact (notI listed hD (fun h => ((hall l hln).1 h).1 rfl) hm).elim
        · exact .inr e2
      · exact .inl e1
    rcases hor with rfl | rfl
    · -- p first
      have hlm : m < listed.size := by rw [hsz]; exact hln
      refine dop_sound hN hcall hbody hlb (hb h) k.size (hreads k (hb h)) s fun E' x w' q1 q2 q3 => ?_
      have k1 : RegRel E' nt r1 (a.put b.dst x) := by rw [hr1]; exact (k.mono q1).put (dopC_fine (hb h)).1 q2
      refine tail_two hN hcall hbody hon hio hjp hij hd hpd he hp hp' he' k1 q3 (fun E2 w2 p1 p2 => hQ E2 _ w2 (q1.trans p1) (k1.mono p1) p2) (by simp [hsz]) (fun y hy => ?_) fuel (by omega)
      rw [getD_set hlm, hall y hy]
      constructor
      · rintro (rfl | h)
        · exact ⟨hli, hlj⟩
        · exact h.2
      · intro h
        by_cases hym : y = m
        · exact .inl hym
        · exact .inr ⟨hym, h⟩
    · -- q first
      have hlm : m < listed.size := by rw [hsz]; exact hjn
      have hp0 : (dopC P nt ops p).run call r h = .val u' h1' := by rw [← dopC_congr hsame]; exact hp'
      have hDm := downSet m hm
      refine dop_sound hN hcall hbody hjp hp0 k.size (hreads k hp0) s fun E' x w' q1 q2 q3 => ?_
      rw [hpd]
      have hsz1 : (listed.setIfInBounds m true).size = ops.size := by simp [hsz]
      cases fuel with
      | zero => omega
      | succ fuel =>
        refine ⟨fun hr => absurd (ready_nil hon hsz1 hr i hin) (fun h => ?_), fun y hy => ?_⟩
        · rcases (getD_set hlm).1 h with e | h
          · exact hij e
          · exact ((hall i hin).1 h).2.1 rfl
        obtain ⟨y1, y2⟩ := ready_not hsz1 hy
        have hyl : y = l := by
          rcases Nat.decEq y l with n1 | e1
          · rcases Nat.decEq y i with n3 | e3
            · exfalso
              refine y2 ((getD_set hlm).2 ?_)
              by_cases hym : y = m
              · exact .inl hym
              · exact .inr ((hall y y1).2 ⟨n1, n3, hym⟩)
            · subst e3
              refine (notI _ hDm (fun h => ?_) hy).elim
              rcases (getD_set hlm).1 h with e | h
              · exact hlj e
              · exact ((hall l hln).1 h).1 rfl
          · exact e1
        subst hyl
        have k' := k.mono q1
        refine dop_sound hN hcall hbody hlb (hb h1') k'.size (hreads k' (hb h1')) q3 fun E2 x2 w2 t1 t2 t3 => ?_
        have k1 : RegRel E2 nt r1 (a.put b.dst x2) := by rw [hr1]; exact (k'.mono t1).put (dopC_fine (hb h)).1 t2
        have hly : y < (listed.setIfInBounds m true).size := by rw [hsz1]; exact hln
        refine tail_one hN hcall hbody hon hio hd he' k1 t3 (fun E3 w3 p1 p2 => hQ E3 _ w3 (q1.trans (t1.trans p1)) (k1.mono p1) p2) (by simp [hsz]) (fun g hg => ?_) fuel (by omega)
        rw [getD_set hly, getD_set hlm, hall g hg]
        constructor
        · rintro (rfl | rfl | h)
          · exact hli
          · exact fun e => hij e.symm
          · exact h.2.1
        · intro h
          by_cases e1 : g = y
          · exact .inl e1
          · by_cases e2 : g = m
            · exact .inr (.inl e2)
            · exact .inr (.inr ⟨e1, h, e2⟩)

theorem draw_fin {rd : Option Nat} {w0 : Fr} {E : Env} {h : Heap} {w : World} {id : Nat} (hM : P.follows .mixedOrders = true) (hN : NamesOk P) (hcall : CallOk P call) (hbody : CallBody P call) {r : Regs} {a : Act}
    {Q : Exit → Act → World → Prop} (k : RegRel E nt r a) (s : Sim w0 E h w) {es : List Ent} {rr : Regs} {hh : Heap} {order poss starts : List Nat} {N M : Nat} (C : Cert P nt ops (fun _ => call) es r h rr hh starts order poss N M false)
    (hQ : N = ops.size → ∀ E' a' w', E.le E' → RegRel E' nt rr a' → Sim w0 E' hh w' → Q .normal a' w')
    (hP : ∀ E' a' w' x v h', E.le E' → N < ops.size → ops.size ≤ M → (∃ i0 o0, ops[i0]? = some o0 ∧ posOf poss i0 = N ∧ (dopC P nt ops o0).run call rr hh = .pan v h') → RegRel E' nt (eraseR r ops.toList) a' → Rel E' v x → Sim w0 E' h' w' → Q (.panic (panic1 x)) a' w')
    (hT : M < ops.size → ∀ (fuel : Nat) (listed : Array Bool) E' a' w', (List.range ops.size).countP (fun i => !listed.getD i false) ≤ fuel → listed.size = ops.size → DownP ops (fun k => listed.getD k false = true) → (∀ k, k < ops.size → (listed.getD k false = true ↔ posOf poss k < N)) →
          E.le E' → RegRel E' nt rr a' → Sim w0 E' hh w' → wpAnyIn (Wd rd) 0 P .any ops Q fuel listed a' w') :
    (Code.region id ops true).wpIn (Wd rd) 0 P Q a w := by
  have hnone : ∀ k, ¬ (Array.replicate ops.size false).getD k false = true := by
    intro k
    rw [getD_iff, Array.getElem?_replicate]
    split <;> simp
  have hheld : Holds w0 w0 es hh poss (Held ops es hh poss (Array.replicate ops.size false) 0) :=
    ⟨rfl, fun _ _ => rfl, fun k hk => (by obtain ⟨_, _, _, _, h0⟩ := hk; omega), fun k k' hk => (by obtain ⟨_, _, _, _, h0⟩ := hk; omega)⟩
  obtain ⟨s', F', g1, g2, g3, g4, g5, g6⟩ := C.advance N 0 (by omega) (fun k o _ _ _ => hnone k) w0 hheld (E := E) (w := { w with drawn := w.drawn }) (by rw [C.h0]; exact s.same rfl rfl rfl rfl)
  have hdf : ∀ (E' : Env) (a' : Act), E.le E' → a'.defers = a.defers → ∀ (r' : Regs), T.get .bad dslot r' = T.get .bad dslot r → DRel E' (T.get .bad dslot r') a'.defers := fun E' a' he hd r' hr' => by rw [hr', hd]; exact k.defers.mono he
  have hdsl : T.get .bad dslot rr = T.get .bad dslot r := by
    have := C.dsl N (Nat.le_refl _)
    have hnn : es[N]? = none := List.getElem?_eq_none (by rw [C.len]; exact Nat.le_refl _)
    simpa [regAt, hnn] using this
  refine wpAnyIn_region hM (draw_any hN (fun _ => hcall) (fun _ => hbody) C (E0 := E) (D := a.defers)
    (fun hn E' a' w' q1 q2 q3 q4 => hQ hn E' a' w' q1 ⟨q2, hdf E' a' q1 q3 rr hdsl⟩ q4)
    (fun E' a' w' x v h' q1 q2 q2' q3 q4 q5 q6 q7 => hP E' a' w' x v h' q1 q2 q2' q3 ⟨q4, hdf E' a' q1 q5 _ eraseR_dslot⟩ q6 q7)
    (fun g0 fuel listed E' a' w' g1 g2 g3 g4 q1 q2 q3 q4 => hT g0 fuel listed E' a' w' g1 g2 g3 g4 q1 ⟨q2, hdf E' a' q1 q3 rr hdsl⟩ q4) ops.size _ a _ ?_ ?_)
  · exact Nat.le_trans List.countP_le_length (by simp)
  · refine ⟨by simp, k.size, rfl, fun k' hk => absurd hk (hnone k'), fun k' o e hk => absurd hk (hnone k'), E, s', F', Env.le.refl E, g1, g3, fun k' o h1 h2 => ⟨fun h => absurd h (hnone k'), fun h => by have := g4 k' o h1 h2 (Nat.zero_le _); omega⟩,
      fun k' o _ _ h => absurd h (hnone k'), g5, ?_, fun t ht => .inr ⟨fun k' o hk => absurd hk (hnone k'), k.reg t ht⟩⟩
    exact g6.same rfl rfl rfl rfl

theorem permOk_spec {n : Nat} {order poss : List Nat} (hperm : permOk n order poss = true) : order.length = n ∧ (∀ k, k < n → posOf poss k < n ∧ order[posOf poss k]? = some k) ∧ ∀ p, p < n → ∃ i, i < n ∧ posOf poss i = p := by
  unfold permOk at hperm
  simp only [Bool.and_eq_true, Nat.beq_eq] at hperm
  obtain ⟨ho1, ho2, ho3, ho4⟩ := hperm
  refine ⟨ho1, fun k hk => ?_, fun p hp => ?_⟩
  · have hg : poss[k]? = some (posOf poss k) := by
      unfold posOf
      rw [List.getElem?_eq_getElem (by omega)]
      rfl
    have := permAt_get ho3 hg
    rw [Nat.zero_add] at this
    exact ⟨by have := (List.getElem?_eq_some_iff.1 this).1; omega, this⟩
  · have hg : order[p]? = some (order[p]'(by omega)) := List.getElem?_eq_getElem (by omega)
    have := permAt_get ho4 hg
    rw [Nat.zero_add] at this
    refine ⟨order[p]'(by omega), by have := (List.getElem?_eq_some_iff.1 this).1; omega, ?_⟩
    unfold posOf
    rw [this]
    rfl

theorem tailFine_spec {order poss : List Nat} (hf : tailFine P ops order poss = true) : 3 ≤ ops.size ∧ ∀ i o, ops[i]? = some o → ∃ mi, (masksFrom [] ops.toList)[i]? = some mi ∧ onFine i o = true ∧
    (posOf poss i < ops.size - 3 → ∀ k ok, ops[k]? = some ok → posOf poss k < ops.size - 3 → ∃ mk, (masksFrom [] ops.toList)[k]? = some mk ∧ pairFine i mi (readsOf ops o) o.dst k mk ok (Nat.blt (posOf poss k) (posOf poss i)) = true ∧ (isEff P o.op = true → isChain P ok = true → posOf poss k < posOf poss i → bitB mi k = true)) ∧
    (¬ posOf poss i < ops.size - 3 → tailOne P ops order poss (ops.size - 3) i mi o = true) := by
  unfold tailFine at hf
  simp only [Bool.and_eq_true, Nat.ble_eq] at hf
  refine ⟨hf.1, fun i o hi => ?_⟩
  obtain ⟨mi, h1, h2⟩ := zipAll_get hf.2 i o (by simpa using hi)
  simp only [Nat.zero_add, Bool.and_eq_true] at h2
  refine ⟨mi, h1, h2.1, fun hlt k ok hk hkl => ?_, fun hge => ?_⟩
  · have h3 := h2.2
    rw [show Nat.blt (posOf poss i) (ops.size - 3) = true from by rw [Nat.blt_eq]; exact hlt] at h3
    simp only [cond_true] at h3
    obtain ⟨mk, k1, k2⟩ := zipAll_get h3 k ok (by simpa using hk)
    simp only [Nat.zero_add] at k2
    rw [show Nat.blt (posOf poss k) (ops.size - 3) = true from by rw [Nat.blt_eq]; exact hkl] at k2
    simp only [cond_true, Bool.and_eq_true] at k2
    refine ⟨mk, k1, k2.1, fun e1 e2 hlt => ?_⟩
    have k3 := k2.2
    rw [e1, e2, Bool.true_and, show Nat.blt (posOf poss k) (posOf poss i) = true from by rw [Nat.blt_eq]; exact hlt] at k3
    exact k3
  · have h3 := h2.2
    rw [show Nat.blt (posOf poss i) (ops.size - 3) = false from by rw [← Bool.not_eq_true, Nat.blt_eq]; exact hge] at h3
    exact h3

theorem tailOne_spec {order poss : List Nat} {N i mi p : Nat} {o po : Oper} (hp : order[N]? = some p) (hpo : ops[p]? = some po) (h : tailOne P ops order poss N i mi o = true) :
    (∀ k, k < ops.size → posOf poss k < N → bitB mi k = true) ∧ (posOf poss i = N → isEff P o.op = false ∧ looks o.op = false) ∧ (posOf poss i ≠ N → ∃ x, storePtr o = some x) ∧
    (posOf poss i = N + 1 → bitB mi p = true) ∧ (posOf poss i = N + 2 → ∀ t ∈ readsOf ops o, po.dst ≠ some t) := by
  unfold tailOne at h
  rw [hp] at h
  simp only [Bool.and_eq_true] at h
  obtain ⟨⟨h1, h2⟩, h3, h4⟩ := h
  refine ⟨fun k hk hkN => ?_, fun e => ?_, fun e => ?_, fun e => ?_, fun e t ht => ?_⟩
  · obtain ⟨mk, k1, k2⟩ := zipAll_get h1 k ops[k] (by simp)
    simp only [Nat.zero_add] at k2
    rw [show Nat.blt (posOf poss k) N = true from by rw [Nat.blt_eq]; exact hkN] at k2
    exact k2
  · rw [cond_beq, if_pos e] at h2
    simpa using h2
  · rw [cond_beq, if_neg e] at h2
    exact Option.isSome_iff_exists.1 h2
  · rw [cond_beq, if_pos e] at h3
    exact h3
  · rw [cond_beq, if_pos e, hpo] at h4
    simp only at h4
    intro hd
    rw [hd] at h4
    simp only [Bool.not_eq_true'] at h4
    rw [show (readsOf ops o).contains t = true from by simpa using ht] at h4
    cases h4

theorem heapAt_take {es : List Ent} {hh : Heap} {N p : Nat} (hp : p ≤ N) : heapAt (es.take N) (heapAt es hh N) p = heapAt es hh p := by
  by_cases h : p < N
  · cases he : es[p]? with
    | some e => simp [heapAt, h, he]
    | none =>
      have hn : es[N]? = none := List.getElem?_eq_none (by have := List.getElem?_eq_none_iff.1 he; omega)
      simp [heapAt, h, he, hn]
  · have : p = N := by omega
    subst this
    simp [heapAt, List.getElem?_take]

theorem regAt_take {es : List Ent} {rr : Regs} {N p : Nat} (hp : p ≤ N) : regAt (es.take N) (regAt es rr N) p = regAt es rr p := by
  by_cases h : p < N
  · cases he : es[p]? with
    | some e => simp [regAt, h, he]
    | none =>
      have hn : es[N]? = none := List.getElem?_eq_none (by have := List.getElem?_eq_none_iff.1 he; omega)
      simp [regAt, h, he, hn]
  · have : p = N := by omega
    subst this
    simp [regAt, List.getElem?_take]

theorem apartAt_spec {order : List Nat} {es : List Ent} {N i j : Nat} {o p : Oper} {e f : Ent} {x y : Operand} (ha : apartAt ops order es N = true) (hi : order[N]? = some i) (hj : order[N + 1]? = some j) (hio : ops[i]? = some o) (hjp : ops[j]? = some p)
    (he : es[N]? = some e) (hf : es[N + 1]? = some f) (hx : storePtr o = some x) (hy : storePtr p = some y) {b c : Pa} {off off' : Nat} (hb : (evC x).run (trimR e.r (readsOf ops o)) = .ptr b off) (hc : (evC y).run (trimR f.r (readsOf ops p)) = .ptr c off') : b ≠ c := by
  unfold apartAt storesAt at ha
  simp only [hi, hj, hio, hjp, he, hf, hx, hy, hb, hc] at ha
  intro h
  subst h
  rw [Pa.eqB_refl] at ha
  cases ha

set_option maxHeartbeats 2000000 in
/-- the last two may come either way round -/
theorem tail_go {rd : Option Nat} {w0 : Fr} {E : Env} {h : Heap} {w : World} {id : Nat} (hM : P.follows .mixedOrders = true) (hN : NamesOk P) (hcall : CallOk P call) (hbody : CallBody P call) {r : Regs} {a : Act} {order poss : List Nat} (hperm : permOk ops.size order poss = true) (hfine : tailFine P ops order poss = true)
    {Q : Exit → Act → World → Prop} {es : List Ent} {rr : Regs} {hh : Heap} (hlen : es.length = ops.size) (q2 : heapAt es hh 0 = h) (q3 : regAt es rr 0 = r)
    (q4 : ∀ j o, (opsAt ops order)[j]? = some o → ∃ e, es[j]? = some e ∧ (dopC P nt ops o).run call e.r e.h = .val e.v (heapAt es hh (j + 1)) ∧ regAt es rr (j + 1) = (putC o.dst).run e.r e.v)
    (hapart : apartAt ops order es (ops.size - 3 + 1) = true)
    (hasks : ∀ j o, ops[j]? = some o → looks o.op = true → isEff P o.op = false → ∀ e, (es.take (ops.size - 3))[posOf poss j]? = some e → ∀ s ∈ levelStarts P poss 0 ops.toList,
      mayStand P (masksFrom [] ops.toList) ops.toList poss j (((masksFrom [] ops.toList)[j]?).getD 0) s = true → ∃ h', (dopC P nt ops o).run call e.r (heapAt (es.take (ops.size - 3)) (heapAt es hh (ops.size - 3)) s) = .val e.v h')
    (hp : ∀ E' a' w', E.le E' → RegRel E' nt rr a' → Sim w0 E' hh w' → Q .normal a' w') (k : RegRel E nt r a) (s : Sim w0 E h w) : (Code.region id ops true).wpIn (Wd rd) 0 P Q a w := by
  obtain ⟨ho1, posLt, ordAt⟩ := permOk_spec hperm
  obtain ⟨h2, hfine⟩ := tailFine_spec hfine
  obtain ⟨N, hNd⟩ : ∃ N, N = ops.size - 3 := ⟨_, rfl⟩
  rw [← hNd] at hfine hapart hasks
  have inj : ∀ i j, i < ops.size → j < ops.size → posOf poss i = posOf poss j → i = j := by
    intro i j hi hj he
    have a := (posLt i hi).2
    have b := (posLt j hj).2
    rw [he, b] at a
    cases a
    rfl
  obtain ⟨iL, hL1, hL2⟩ := ordAt N (by omega)
  obtain ⟨iA, hA1, hA2⟩ := ordAt (N + 1) (by omega)
  obtain ⟨iB, hB1, hB2⟩ := ordAt (N + 2) (by omega)
  have hioL : ops[iL]? = some ops[iL] := Array.getElem?_eq_getElem hL1
  have hioA : ops[iA]? = some ops[iA] := Array.getElem?_eq_getElem hA1
  have hioB : ops[iB]? = some ops[iB] := Array.getElem?_eq_getElem hB1
  have hordL := (posLt iL hL1).2
  have hordA := (posLt iA hA1).2
  have hordB := (posLt iB hB1).2
  rw [hL2] at hordL
  rw [hA2] at hordA
  rw [hB2] at hordB
  have htail : ∀ i o, ops[i]? = some o → ¬ posOf poss i < N → ∃ mi, (masksFrom [] ops.toList)[i]? = some mi ∧ (∀ k, k < ops.size → posOf poss k < N → bitB mi k = true) ∧ (posOf poss i = N → isEff P o.op = false ∧ looks o.op = false) ∧ (posOf poss i ≠ N → ∃ x, storePtr o = some x) ∧
      (posOf poss i = N + 1 → bitB mi iL = true) ∧ (posOf poss i = N + 2 → ∀ t ∈ readsOf ops o, ops[iL].dst ≠ some t) := by
    intro i o hi hge
    obtain ⟨mi, z1, _, _, z4⟩ := hfine i o hi
    exact ⟨mi, z1, tailOne_spec hordL hioL (z4 hge)⟩
  obtain ⟨mL, _, _, tL, _⟩ := htail iL _ hioL (by omega)
  obtain ⟨mA, hmA, _, _, tA, wA, _⟩ := htail iA _ hioA (by omega)
  obtain ⟨mB, hmB, _, _, tB, _, rB⟩ := htail iB _ hioB (by omega)
  obtain ⟨effL, lookL⟩ := tL hL2
  obtain ⟨xA, hxA⟩ := tA (by omega)
  obtain ⟨xB, hxB⟩ := tB (by omega)
  have wA := wA hA2
  have rB := rB hB2
  obtain ⟨eL, l1, l2, l3⟩ := q4 _ _ (opsAt_get hordL hioL)
  obtain ⟨eA, a1, a2, a3⟩ := q4 _ _ (opsAt_get hordA hioA)
  obtain ⟨eB, b1, b2, b3⟩ := q4 _ _ (opsAt_get hordB hioB)
  obtain ⟨tyA, yA, oA, dA, gA⟩ := storePtr_eq hxA
  obtain ⟨tyB, yB, oB, dB, gB⟩ := storePtr_eq hxB
  have hnone : es[N + 2 + 1]? = none := List.getElem?_eq_none (by omega)
  have hlast : heapAt es hh (N + 2 + 1) = hh := by simp [heapAt, hnone]
  have rlast : regAt es rr (N + 2 + 1) = rr := by simp [regAt, hnone]
  have hNL : heapAt es hh N = eL.h := by simp [heapAt, l1]
  have rNL : regAt es rr N = eL.r := by simp [regAt, l1]
  have hNA : heapAt es hh (N + 1) = eA.h := by simp [heapAt, a1]
  have rNA : regAt es rr (N + 1) = eA.r := by simp [regAt, a1]
  have hNB : heapAt es hh (N + 1 + 1) = eB.h := by simp [heapAt, b1]
  have rNB : regAt es rr (N + 1 + 1) = eB.r := by simp [regAt, b1]
  rw [rNA] at l3
  rw [hNA] at l2
  rw [dA, rNB] at a3
  rw [dB, rlast] at b3
  simp only [putC] at a3 b3
  rw [hNB] at a2
  rw [hlast] at b2
  obtain ⟨hLh, hLany⟩ := dop_quiet effL l2
  have hLany := hLany lookL
  obtain ⟨bA, oaA, kA, pA, sA, uA⟩ := dop_store hxA a2
  obtain ⟨bB, oaB, kB, pB, sB, uB⟩ := dop_store hxB b2
  have hne : bA ≠ bB := apartAt_spec hapart hordA hordB hioA hioB a1 b1 hxA hxB pA pB
  -- the other way round
  have hB0 := uB eA.h (by rw [sA, Heap.get_set, if_neg hne])
  have hA0 := uA (eA.h.set bB kB) (by rw [Heap.get_set, if_neg (fun e => hne e.symm)])
  have hcomm : (eA.h.set bB kB).set bA kA = hh := by rw [Heap.set_comm _ (fun e => hne e.symm), ← sA, ← sB]
  rw [hcomm] at hA0
  rw [a3] at hB0 b2
  have hrr : rr = eA.r := b3.trans a3
  have hnN : ∀ m, m < ops.size → (posOf poss m < N ↔ (m ≠ iL ∧ m ≠ iA ∧ m ≠ iB)) := by
    intro m hm
    have hpm := (posLt m hm).1
    constructor
    · intro h
      exact ⟨fun e => by subst e; omega, fun e => by subst e; omega, fun e => by subst e; omega⟩
    · rintro ⟨n0, n1, n2⟩
      have c0 : posOf poss m ≠ N := fun e => n0 (inj m iL hm hL1 (by rw [e, hL2]))
      have c1 : posOf poss m ≠ N + 1 := fun e => n1 (inj m iA hm hA1 (by rw [e, hA2]))
      have c2 : posOf poss m ≠ N + 2 := fun e => n2 (inj m iB hm hB1 (by rw [e, hB2]))
      omega
  have hchA : isChain P ops[iA] = true := by unfold isChain isAlloc; rw [oA]; rfl
  have hsame : ∀ t ∈ readsOf ops ops[iB], T.get .bad (pa t) eA.r = T.get .bad (pa t) eL.r := by
    intro t ht
    have htop : t ≤ top := Nat.le_of_ble_eq_true (List.all_eq_true.1 (dopC_fine b2).2 t ht)
    rw [l3, get_put_dst (dopC_fine l2).1 htop, if_neg (rB t ht)]
  have hstep : ∀ i o, ops[i]? = some o → posOf poss i < N → ∃ e, (es.take N)[posOf poss i]? = some e ∧ (dopC P nt ops o).run call e.r e.h = .val e.v (heapAt (es.take N) (heapAt es hh N) (posOf poss i + 1)) ∧ regAt (es.take N) (regAt es rr N) (posOf poss i + 1) = (putC o.dst).run e.r e.v := by
    intro i o ho hi
    obtain ⟨e, z1, z2, z3⟩ := q4 _ o (opsAt_get (posLt i (Array.getElem?_eq_some_iff.1 ho).1).2 ho)
    refine ⟨e, by simp [hi, z1], ?_, ?_⟩
    · rw [heapAt_take (by omega)]; exact z2
    · rw [regAt_take (by omega)]; exact z3
  -- the levels, and N
  have C : Cert P nt ops (fun _ => call) (es.take N) r h (regAt es rr N) (heapAt es hh N) (N :: levelStarts P poss 0 ops.toList) order poss N N false :=
    ⟨by simp [hlen]; omega, by omega, Nat.le_refl _, posLt, ordAt, by rw [heapAt_take (Nat.zero_le _)]; exact q2, by rw [regAt_take (Nat.zero_le _)]; exact q3, hstep,
      fun i o ho => by
        obtain ⟨mi, z1, z2, z3, _⟩ := hfine i o ho
        exact ⟨mi, z1, z2, fun hi k ok hk hkM => by
          obtain ⟨mk, y1, y2, y3⟩ := z3 hi k ok hk hkM
          exact ⟨mk, y1, y2, fun a b c => .inl (y3 a b c)⟩⟩,
      by simp,
      fun j o h1 h2 => List.mem_cons_of_mem _ (by simpa using levelStarts_mem (poss := poss) (i := 0) (j := j) (l := ops.toList) (by simpa using h1) h2),
      fun s hs => by
        rcases List.mem_cons.1 hs with rfl | hs
        · exact .inl (.inr ⟨rfl, rfl⟩)
        · rcases levelStarts_spec hs with h | ⟨j, o, h1, h2, h3⟩
          · exact .inl (.inl (by simpa using h))
          · exact .inr ⟨j, o, by simpa using h1, h2, by simpa using h3⟩,
      fun j o h1 h2 h3 h4 => by
        obtain ⟨e, g1, _⟩ := hstep j o h1 h4
        have hthis := hasks j o h1 h2 h3 e g1
        refine ⟨e, g1, fun s hs hm => ?_⟩
        rcases List.mem_cons.1 hs with rfl | hs
        · have hm' : mayStand P (masksFrom [] ops.toList) ops.toList poss j (((masksFrom [] ops.toList)[j]?).getD 0) (s + 1) = true := by
            unfold mayStand at hm ⊢
            refine zipAll_mk (by rw [masksFrom_length]; simp) fun kk mk ok y1 y2 => ?_
            obtain ⟨mk', x1, x2⟩ := zipAll_get hm kk ok y2
            rw [y1] at x1; cases x1
            simp only [Nat.zero_add] at x2 ⊢
            have hok : ops[kk]? = some ok := by simpa using y2
            have hkl := (Array.getElem?_eq_some_iff.1 hok).1
            by_cases hks : posOf poss kk = s
            · have : kk = iL := inj kk iL hkl hL1 (by rw [hks, hL2])
              subst this
              rw [hioL] at hok; cases hok
              have hnc : isChain P ops[kk] = false := by unfold isChain; rw [effL]; rfl
              rw [hnc]
              rfl
            · have : Nat.blt (posOf poss kk) (s + 1) = Nat.blt (posOf poss kk) s := by
                rw [Bool.eq_iff_iff, Nat.blt_eq, Nat.blt_eq]
                omega
              rw [this]
              exact x2
          have hmem : s + 1 ∈ levelStarts P poss 0 ops.toList := by rw [← hA2]; simpa using levelStarts_mem (P := P) (poss := poss) (i := 0) (j := iA) (l := ops.toList) (by simp) hchA
          obtain ⟨h', g3⟩ := hthis (s + 1) hmem hm'
          refine ⟨call, h', ⟨hcall, hbody⟩, ?_⟩
          have e1 : heapAt (es.take s) (heapAt es hh s) (s + 1) = heapAt es hh s := by
            have : (es.take s)[s + 1]? = none := List.getElem?_eq_none (by simp; omega)
            simp only [heapAt, this]
          have e2 : heapAt (es.take s) (heapAt es hh s) s = heapAt es hh s := heapAt_take (Nat.le_refl _)
          rw [e1] at g3
          rw [e2]
          exact g3
        · obtain ⟨h', g3⟩ := hthis s hs hm
          exact ⟨call, h', ⟨hcall, hbody⟩, g3⟩,
      fun _ => ⟨rfl, fun kk ok mk hk hge hmk j hj hjN => by
        obtain ⟨mi, z1, z2, _⟩ := htail kk ok hk (by omega)
        rw [hmk] at z1; cases z1
        exact z2 j hj hjN⟩,
      fun h1 h2 => by omega⟩
  refine draw_fin hM hN hcall hbody k s C (fun h => by omega) (fun _ _ _ _ _ _ _ _ h => by omega) (fun _ fuel listed E' a' w' g1 g2 g3 g4 g5 g6 g7 => ?_)
  rw [rNL] at g6
  rw [hNL] at g7
  rw [hLh] at a2 hB0 hA0
  refine tail_three hN hcall hbody (fun i o ho => by obtain ⟨mi, _, z2, _⟩ := hfine i o ho; exact z2) hioL hioA hioB (fun e => by rw [e] at hL2; omega) (fun e => by rw [e] at hL2; omega) (fun e => by rw [e] at hA2; omega) dA dB
    hLany l3 hsame a2 b2 hB0 hA0 g6 g7 (fun E2 a2 w2 p1 p2 p3 => hp E2 a2 w2 (g5.trans p1) (by rw [hrr]; exact p2) p3) g2 g3 (fun mi hmi => by rw [hmA] at hmi; cases hmi; exact wA) ⟨mA, hmA⟩ (fun m hm => (g4 m hm).trans (hnN m hm)) fuel ?_
  -- three are left
  have cnt : ∀ (L : Array Bool) (x : Nat), L.size = ops.size → x < ops.size → ¬ L.getD x false = true → (List.range ops.size).countP (fun k => !(L.setIfInBounds x true).getD k false) < (List.range ops.size).countP (fun k => !L.getD k false) := by
    intro L x hL hx hn
    have hxl : x < L.size := by rw [hL]; exact hx
    refine countP_lt (fun k => !L.getD k false) (fun k => !(L.setIfInBounds x true).getD k false) (List.range ops.size) (fun k _ hk => ?_) ⟨x, List.mem_range.2 hx, ?_, ?_⟩
    · simp only [Bool.not_eq_true'] at hk ⊢
      cases hq : L.getD k false with
      | false => rfl
      | true =>
        have := (getD_set (k := k) hxl).2 (.inr hq)
        rw [hk] at this
        cases this
    · cases hq : L.getD x false with
      | false => rfl
      | true => exact absurd hq hn
    · have := (getD_set (k := x) hxl).2 (.inl rfl)
      simp [this]
  have nL : ¬ listed.getD iL false = true := fun h => by have := (g4 iL hL1).1 h; omega
  have nA : ¬ listed.getD iA false = true := fun h => by have := (g4 iA hA1).1 h; omega
  have nB : ¬ listed.getD iB false = true := fun h => by have := (g4 iB hB1).1 h; omega
  have c1 := cnt listed iL g2 hL1 nL
  have c2 := cnt (listed.setIfInBounds iL true) iA (by simp [g2]) hA1 (fun h => by
    rcases (getD_set (by rw [g2]; exact hL1)).1 h with e | h
    · rw [e] at hA2; omega
    · exact nA h)
  have c3 := cnt ((listed.setIfInBounds iL true).setIfInBounds iA true) iB (by simp [g2]) hB1 (fun h => by
    rcases (getD_set (by simp [g2]; exact hA1)).1 h with e | h
    · rw [e] at hB2; omega
    · rcases (getD_set (by rw [g2]; exact hL1)).1 h with e | h
      · rw [e] at hB2; omega
      · exact nB h)
  omega
theorem drawT_sound {rd : Option Nat} {w0 : Fr} {E : Env} {h : Heap} {w : World} {id : Nat} (hM : P.follows .mixedOrders = true) (hN : NamesOk P) (hcall : CallOk P call) (hbody : CallBody P call) {r : Regs} {a : Act} {order poss : List Nat} (hperm : permOk ops.size order poss = true) (hfine : tailFine P ops order poss = true)
    {Q : Exit → Act → World → Prop} (hp : PostR w0 E nt (Q .normal) Q (drawRunT ops order (stepsD P nt ops (opsAt ops order)) (asksC P nt ops (masksFrom [] ops.toList) poss (levelStarts P poss 0 ops.toList) 0 ops.toList) call r h)) (k : RegRel E nt r a) (s : Sim w0 E h w) : (Code.region id ops true).wpIn (Wd rd) 0 P Q a w := by
  obtain ⟨ho1, posLt, ordAt⟩ := permOk_spec hperm
  unfold drawRunT at hp
  cases hst : (stepsD P nt ops (opsAt ops order)).run call r h with
  | fail => rw [hst] at hp; exact hp.elim
  | pan _ _ _ _ _ => rw [hst] at hp; exact hp.elim
  | ok es rr hh =>
    rw [hst] at hp
    simp only at hp
    cases hq : (apartAt ops order es (ops.size - 3 + 1) && (asksC P nt ops (masksFrom [] ops.toList) poss (levelStarts P poss 0 ops.toList) 0 ops.toList).run call (es.take (ops.size - 3)) (heapAt es hh (ops.size - 3))) with
    | false => rw [hq] at hp; exact hp.elim
    | true =>
      rw [hq] at hp
      simp only [cond_true] at hp
      simp only [Bool.and_eq_true] at hq
      obtain ⟨q1, q2, q3, q4⟩ := stepsD_spec hst
      exact tail_go hM hN hcall hbody hperm hfine (by rw [q1, opsAt_length, ho1]) q2 q3 q4 hq.1 (fun j o h1 h2 h3 e g1 s hs hm => by
        have := asksC_spec hq.2 j o (by simpa using h1) h2 h3 e (by simpa using g1)
        exact this s hs (by simpa using hm)) hp k s
end
end Go.Proofs.YtpfmfpakbfkfoaaGreatDoor.Am

namespace Go.Proofs.YtpfmfpakbfkfoaaGreatDoor.Am
variable [Lay]
set_option linter.unusedSectionVars false
set_option linter.unusedVariables false
set_option linter.unusedSimpArgs false
open Go Go.RowKit

section
variable {P : Program} {nt : Nat} {ops : Array Oper} {call : CallF}

/-- two lists, entry by entry -/
inductive All2 {α β : Type} (R : α → β → Prop) : List α → List β → Prop
  | nil : All2 R [] []
  | cons {a : α} {b : β} {l₁ : List α} {l₂ : List β} (h : R a b) (t : All2 R l₁ l₂) : All2 R (a :: l₁) (b :: l₂)

/-! A literal map, laid in whatever order. -/
def readyAt (ops : Array Oper) (t : Nat) (listed : Array Bool) : Option Nat := (Region.ready .any ops listed)[t % (Region.ready .any ops listed).length]?

theorem go_succ (fuel t : Nat) (listed : Array Bool) : Region.linearise.go .any ops (fuel + 1) t listed [] = match readyAt ops t listed with
    | some i => i :: Region.linearise.go .any ops fuel (t / (Region.ready .any ops listed).length) (listed.setIfInBounds i true) []
    | none => [] := by
  simp only [Region.linearise.go]
  change (match (Region.ready .any ops listed)[t % (Region.ready .any ops listed).length]? with
    | some i => Region.linearise.go .any ops fuel (t / (Region.ready .any ops listed).length) (listed.setIfInBounds i true) [i]
    | none => [].reverse) = _
  unfold readyAt
  cases (Region.ready .any ops listed)[t % (Region.ready .any ops listed).length]? with
  | none => rfl
  | some i =>
    simp only
    rw [linearise_go_acc, List.reverse_singleton, List.singleton_append]

theorem readyAt_none {t : Nat} {listed : Array Bool} (h : readyAt ops t listed = none) : Region.ready .any ops listed = [] := by
  unfold readyAt at h
  cases hr : Region.ready .any ops listed with
  | nil => rfl
  | cons x xs =>
    rw [hr] at h
    have hlt : t % (x :: xs).length < (x :: xs).length := Nat.mod_lt _ (by simp)
    rw [List.getElem?_eq_getElem hlt] at h
    cases h

theorem readyAt_some {t i : Nat} {listed : Array Bool} (h : readyAt ops t listed = some i) : i ∈ Region.ready .any ops listed := List.mem_of_getElem? h

theorem count_set {listed : Array Bool} {i : Nat} (hsz : listed.size = ops.size) (hi : i < ops.size) (hn : ¬ listed.getD i false = true) :
    (List.range ops.size).countP (fun k => !(listed.setIfInBounds i true).getD k false) < (List.range ops.size).countP (fun k => !listed.getD k false) := by
  have hl : i < listed.size := by rw [hsz]; exact hi
  refine countP_lt (fun k => !listed.getD k false) (fun k => !(listed.setIfInBounds i true).getD k false) (List.range ops.size) (fun k _ hk => ?_) ⟨i, List.mem_range.2 hi, ?_, ?_⟩
  · simp only [Bool.not_eq_true'] at hk ⊢
    cases hq : listed.getD k false with
    | false => rfl
    | true =>
      have := (getD_set (k := k) hl).2 (.inr hq)
      rw [hk] at this
      cases this
  · cases hq : listed.getD i false with
    | false => rfl
    | true => exact absurd hq hn
  · have := (getD_set (k := i) hl).2 (.inl rfl)
    simp [this]

theorem go_spec (hon : ∀ i o, ops[i]? = some o → onFine i o = true) : ∀ (fuel t : Nat) (listed : Array Bool), listed.size = ops.size → (List.range ops.size).countP (fun i => !listed.getD i false) ≤ fuel →
    (Region.linearise.go .any ops fuel t listed []).Nodup ∧ (∀ k ∈ Region.linearise.go .any ops fuel t listed [], k < ops.size ∧ ¬ listed.getD k false = true) ∧
      ∀ k, k < ops.size → listed.getD k false = true ∨ k ∈ Region.linearise.go .any ops fuel t listed []
  | 0, t, listed, hsz, hc => by
    have e : Region.linearise.go .any ops 0 t listed [] = [] := rfl
    rw [e]
    refine ⟨List.nodup_nil, fun k hk => by simp at hk, fun k hk => .inl ?_⟩
    have h0 : (List.range ops.size).countP (fun i => !listed.getD i false) = 0 := by omega
    rw [List.countP_eq_zero] at h0
    simpa using h0 k (List.mem_range.2 hk)
  | fuel + 1, t, listed, hsz, hc => by
    rw [go_succ]
    cases hr : readyAt ops t listed with
    | none =>
      simp only
      exact ⟨List.nodup_nil, fun k hk => by simp at hk, fun k hk => .inl (ready_nil hon hsz (readyAt_none hr) k hk)⟩
    | some i =>
      simp only
      obtain ⟨i1, i2⟩ := ready_not hsz (readyAt_some hr)
      have hl : i < listed.size := by rw [hsz]; exact i1
      have := count_set hsz i1 i2
      obtain ⟨g1, g2, g3⟩ := go_spec hon fuel (t / (Region.ready .any ops listed).length) (listed.setIfInBounds i true) (by simp [hsz]) (by omega)
      refine ⟨List.nodup_cons.2 ⟨fun hm => (g2 i hm).2 ((getD_set hl).2 (.inl rfl)), g1⟩, fun k hk => ?_, fun k hk => ?_⟩
      · rcases List.mem_cons.1 hk with rfl | hk
        · exact ⟨i1, i2⟩
        · exact ⟨(g2 k hk).1, fun h => (g2 k hk).2 ((getD_set hl).2 (.inr h))⟩
      · rcases g3 k hk with h | h
        · rcases (getD_set hl).1 h with rfl | h
          · exact .inr (by simp)
          · exact .inl h
        · exact .inr (by simp [h])

/-! Runs of a list of operations, cut in two. -/
theorem stepsD_cons {o : Oper} {os : List Oper} {r : Regs} {h : Heap} {es : List Ent} {rf : Regs} {hf : Heap} (he : (stepsD P nt ops (o :: os)).run call r h = .ok es rf hf) :
    ∃ v h1 es1, (dopC P nt ops o).run call r h = .val v h1 ∧ (stepsD P nt ops os).run call ((putC o.dst).run r v) h1 = .ok es1 rf hf ∧ es = ⟨r, h, v⟩ :: es1 := by
  simp only [stepsD, stepD] at he
  cases h1 : (dopC P nt ops o).run call r h with
  | fail => rw [h1] at he; cases he
  | pan _ _ => rw [h1] at he; simp only at he; cases hm : mayPan o.op <;> rw [hm] at he <;> cases he
  | val v hh =>
    rw [h1] at he
    simp only at he
    cases h2 : (stepsD P nt ops os).run call ((putC o.dst).run r v) hh with
    | fail => rw [h2] at he; cases he
    | pan _ _ _ _ _ => rw [h2] at he; cases he
    | ok es1 r1 h3 =>
      rw [h2] at he
      simp only [DR.ok.injEq] at he
      obtain ⟨rfl, rfl, rfl⟩ := he
      exact ⟨v, hh, es1, rfl, h2, rfl⟩

theorem stepsD_mk {o : Oper} {os : List Oper} {r : Regs} {h h1 : Heap} {v : V} {es1 : List Ent} {rf : Regs} {hf : Heap} (h0 : (dopC P nt ops o).run call r h = .val v h1) (h2 : (stepsD P nt ops os).run call ((putC o.dst).run r v) h1 = .ok es1 rf hf) :
    (stepsD P nt ops (o :: os)).run call r h = .ok (⟨r, h, v⟩ :: es1) rf hf := by
  simp only [stepsD, stepD, h0, h2]

theorem stepsD_append : ∀ (l1 l2 : List Oper) {r : Regs} {h : Heap} {es : List Ent} {rf : Regs} {hf : Heap}, (stepsD P nt ops (l1 ++ l2)).run call r h = .ok es rf hf →
    ∃ es1 r1 h1 es2, (stepsD P nt ops l1).run call r h = .ok es1 r1 h1 ∧ (stepsD P nt ops l2).run call r1 h1 = .ok es2 rf hf ∧ es = es1 ++ es2
  | [], l2, r, h, es, rf, hf, he => ⟨[], r, h, es, rfl, he, rfl⟩
  | o :: os, l2, r, h, es, rf, hf, he => by
    obtain ⟨v, h1, es1, q1, q2, rfl⟩ := stepsD_cons he
    obtain ⟨es3, r1, h3, es2, g1, g2, rfl⟩ := stepsD_append os l2 q2
    exact ⟨⟨r, h, v⟩ :: es3, r1, h3, es2, stepsD_mk q1 g1, g2, rfl⟩

theorem stepsD_join : ∀ (l1 l2 : List Oper) {r r1 rf : Regs} {h h1 hf : Heap} {es1 es2 : List Ent}, (stepsD P nt ops l1).run call r h = .ok es1 r1 h1 → (stepsD P nt ops l2).run call r1 h1 = .ok es2 rf hf →
    (stepsD P nt ops (l1 ++ l2)).run call r h = .ok (es1 ++ es2) rf hf
  | [], l2, r, r1, rf, h, h1, hf, es1, es2, he, h2 => by
    simp only [stepsD, DR.ok.injEq] at he
    obtain ⟨rfl, rfl, rfl⟩ := he
    exact h2
  | o :: os, l2, r, r1, rf, h, h1, hf, es1, es2, he, h2 => by
    obtain ⟨v, h3, es3, q1, q2, rfl⟩ := stepsD_cons he
    exact stepsD_mk q1 (stepsD_join os l2 q2 h2)

theorem opsAt_append : ∀ (a b : List Nat), opsAt ops (a ++ b) = opsAt ops a ++ opsAt ops b
  | [], b => rfl
  | x :: xs, b => by simp [opsAt, opsAt_append xs b]

/-- what just reckons, runs the same over any memory -/
theorem quiet_run : ∀ (l : List Oper), (∀ o ∈ l, isEff P o.op = false ∧ looks o.op = false) → ∀ {r rf : Regs} {h hf : Heap} {es : List Ent}, (stepsD P nt ops l).run call r h = .ok es rf hf →
    hf = h ∧ ∀ H : Heap, ∃ es', (stepsD P nt ops l).run call r H = .ok es' rf H
  | [], _, r, rf, h, hf, es, he => by
    simp only [stepsD, DR.ok.injEq] at he
    obtain ⟨rfl, rfl, rfl⟩ := he
    exact ⟨rfl, fun H => ⟨[], rfl⟩⟩
  | o :: os, hq, r, rf, h, hf, es, he => by
    obtain ⟨v, h1, es1, q1, q2, rfl⟩ := stepsD_cons he
    obtain ⟨e1, e2⟩ := hq o (by simp)
    obtain ⟨d1, d2⟩ := dop_quiet e1 q1
    subst d1
    obtain ⟨g1, g2⟩ := quiet_run os (fun o' ho' => hq o' (by simp [ho'])) q2
    refine ⟨g1, fun H => ?_⟩
    obtain ⟨es', g3⟩ := g2 H
    exact ⟨_, stepsD_mk (d2 e2 H) g3⟩

/-! Entries. -/
theorem insArgs_eq {o : Oper} {A : InsA} (h : insArgs o = some A) : o.op = .insert A.t A.m A.k A.x ∧ o.dst = none ∧ o.guard = none := by
  unfold insArgs at h
  split at h
  case h_2 => cases h
  rename_i t m k x ho
  split at h
  case h_2 => cases h
  rename_i hd
  split at h
  case h_2 => cases h
  rename_i hg
  cases h
  exact ⟨ho, hd, hg⟩

theorem putV_new {e : EqC} {k v : V} {c : Nat} : ∀ {es : List ME}, (∀ m ∈ es, e.run k m.k = some false) → putV e k v c es = some (es ++ [⟨k, v, c⟩], true)
  | [], _ => rfl
  | m :: ms, h => by
    simp only [putV, h m (by simp), cond_false, putV_new (es := ms) fun m' hm' => h m' (by simp [hm']), List.cons_append]

theorem dop_insert {o : Oper} {A : InsA} (hkf : keyFitsT P A.t = true) (hA : insArgs o = some A) {r : Regs} {H1 H2 : Heap} {v : V} (he : (dopC P nt ops o).run call r H1 = .val v H2) {b : Pa} (hb : (evC A.m).run (trimR r (readsOf ops o)) = .map b) :
    ∀ (H : Heap) es c, H.get b = .mp es c → (∀ m ∈ es, (keyEq P A.t).run ((evC A.k).run (trimR r (readsOf ops o))) m.k = some false) →
      (dopC P nt ops o).run call r H = .val .bad (H.set b (.mp (es ++ [⟨(evC A.k).run (trimR r (readsOf ops o)), (evC A.x).run (trimR r (readsOf ops o)), c⟩]) (c + 1))) := by
  obtain ⟨ho, hd, hg⟩ := insArgs_eq hA
  obtain ⟨h1, h2⟩ := dopC_fine he
  have key : dopC P nt ops o = ⟨dopRun none (cop P o) (readsOf ops o)⟩ := by
    unfold dopC
    rw [show (dstFine nt o.dst && smallT (readsOf ops o)) = true from by rw [h1, h2]; rfl, hg]
    rfl
  rw [key] at he ⊢
  simp only [dopRun] at he ⊢
  have hcop : ∀ H, (cop P o).run call (trimR r (readsOf ops o)) H = orHeap .bad ((updC P A.t).run H (.map b) ((evC A.k).run (trimR r (readsOf ops o))) ((evC A.x).run (trimR r (readsOf ops o)))) := by
    intro H
    unfold cop
    rw [ho]
    simp only [hb]
  rw [hcop] at he
  have hupd : updC P A.t = ⟨updV (keyEq P A.t)⟩ := by
    cases hs : (updC P A.t).run H1 (.map b) ((evC A.k).run (trimR r (readsOf ops o))) ((evC A.x).run (trimR r (readsOf ops o))) with
    | none => rw [hs] at he; cases he
    | some h3 =>
      unfold updC at hs ⊢
      unfold keyEq
      cases ht : tiOf P A.t with
      | none => rw [ht] at hs; cases hs
      | some ti =>
        rw [ht] at hs
        simp only at hs ⊢
        cases hund : ti.und <;> rw [hund] at hs <;> simp only at hs ⊢ <;> try (cases hs; done)
        rename_i kt et
        cases hkt : tiOf P kt with
        | none => rw [hkt] at hs; cases hs
        | some ki =>
          rw [hkt] at hs
          simp only at hs ⊢
          cases hf : keyFits ki.und with
          | false =>
            unfold keyFitsT at hkf
            rw [ht] at hkf
            simp only [hund, hkt, hf] at hkf
            cases hkf
          | true => rfl
  intro H es c hH hk
  rw [hcop, hupd]
  simp only [updV, hH, Blk.onMap, putV_new hk, orHeap, cond_true]

theorem insEnt_eq {o : Oper} {r : Regs} {b : Pa} {m : ME} (h : insEnt ops r b o = some m) : ∃ A, insArgs o = some A ∧ (evC A.m).run (trimR r (readsOf ops o)) = .map b ∧ m.k = (evC A.k).run (trimR r (readsOf ops o)) ∧ m.v = (evC A.x).run (trimR r (readsOf ops o)) := by
  unfold insEnt at h
  cases ha : insArgs o with
  | none => rw [ha] at h; cases h
  | some A =>
    rw [ha] at h
    simp only at h
    cases hm : (evC A.m).run (trimR r (readsOf ops o)) <;> rw [hm] at h <;> simp only at h <;> try (cases h; done)
    obtain ⟨hc, h1⟩ := cond_some h
    have := Pa.eqB_eq hc
    subst this
    cases h1
    exact ⟨A, rfl, hm, rfl, rfl⟩

/-- i puts in m -/
def EntOf (ops : Array Oper) (r : Regs) (b : Pa) (i : Nat) (m : ME) : Prop := ∃ o, ops[i]? = some o ∧ insEnt ops r b o = some m

theorem EntOf.det {r : Regs} {b : Pa} {i : Nat} {m m' : ME} (h : EntOf ops r b i m) (h' : EntOf ops r b i m') : m = m' := by
  obtain ⟨o, h1, h2⟩ := h
  obtain ⟨o', h3, h4⟩ := h'
  rw [h1] at h3; cases h3
  rw [h2] at h4; cases h4
  rfl

theorem insEnts_all {r : Regs} {b : Pa} : ∀ {is : List Nat} {ms : List ME}, insEnts ops r b is = some ms → All2 (EntOf ops r b) is ms
  | [], ms, h => by simp only [insEnts, Option.some.injEq] at h; subst h; exact .nil
  | i :: is, ms, h => by
    simp only [insEnts] at h
    cases ho : ops[i]? with
    | none => rw [ho] at h; cases h
    | some o =>
      rw [ho] at h
      simp only at h
      cases hm : insEnt ops r b o with
      | none => rw [hm] at h; cases h
      | some m =>
        rw [hm] at h
        simp only at h
        cases hs : insEnts ops r b is with
        | none => rw [hs] at h; cases h
        | some ms' =>
          rw [hs] at h
          simp only [Option.some.injEq] at h
          subst h
          exact .cons ⟨o, ho, hm⟩ (insEnts_all hs)

theorem isFalse_eq {x : Option Bool} (h : isFalse x = true) : x = some false := by
  cases x with
  | none => cases h
  | some b => cases b <;> simp_all [isFalse]

theorem apartK_mem {e : EqC} {m : ME} : ∀ {ms : List ME}, apartK e m ms = true → ∀ m' ∈ ms, e.run m.k m'.k = some false ∧ e.run m'.k m.k = some false
  | [], _, m', h => by simp at h
  | x :: xs, h, m', hm => by
    simp only [apartK, Bool.and_eq_true] at h
    rcases List.mem_cons.1 hm with rfl | hm
    · exact ⟨isFalse_eq h.1, isFalse_eq h.2.1⟩
    · exact apartK_mem h.2.2 m' hm

theorem apart_of {r : Regs} {b : Pa} {e : EqC} : ∀ {is : List Nat} {ms : List ME}, All2 (EntOf ops r b) is ms → is.Nodup → apartAll e ms = true → ∀ i j m m', i ∈ is → j ∈ is → i ≠ j → EntOf ops r b i m → EntOf ops r b j m' → e.run m.k m'.k = some false
  | _, _, .nil, _, _, i, _, _, _, hi, _, _, _, _ => by simp at hi
  | _, _, .cons (a := x) (b := mx) (l₁ := xs) (l₂ := mxs) h0 ht, hn, ha, i, j, m, m', hi, hj, hij, hm, hm' => by
    simp only [apartAll, Bool.and_eq_true] at ha
    rw [List.nodup_cons] at hn
    have inTail : ∀ k n, k ∈ xs → EntOf ops r b k n → n ∈ mxs := by
      intro k n hk hkn
      have gen : ∀ {is : List Nat} {ms : List ME}, All2 (EntOf ops r b) is ms → k ∈ is → n ∈ ms := by
        intro is ms hf
        induction hf with
        | nil => intro hk; simp at hk
        | cons h1 _ ih =>
          intro hk
          rcases List.mem_cons.1 hk with rfl | hk
          · rw [hkn.det h1]; simp
          · exact List.mem_cons_of_mem _ (ih hk)
      exact gen ht hk
    rcases List.mem_cons.1 hi with hix | hi
    · rcases List.mem_cons.1 hj with hjx | hj
      · exact absurd (hix.trans hjx.symm) hij
      · rw [hix] at hm
        rw [hm.det h0]
        exact (apartK_mem ha.1 m' (inTail j m' hj hm')).1
    · rcases List.mem_cons.1 hj with hjx | hj
      · rw [hjx] at hm'
        rw [hm'.det h0]
        exact (apartK_mem ha.1 m (inTail i m hi hm)).2
      · exact apart_of ht hn.2 ha.2 i j m m' hi hj hij hm hm'

/-- the entries, in an order of one's own -/
theorem ins_run {rP : Regs} {b : Pa} {e : EqC} {I : List Nat} (hI : ∀ i ∈ I, ∃ o A m, ops[i]? = some o ∧ insArgs o = some A ∧ (keyFitsT P A.t = true ∧ keyEq P A.t = e) ∧ insEnt ops rP b o = some m ∧ ∃ v H1 H2, (dopC P nt ops o).run call rP H1 = .val v H2)
    (hap : ∀ i j m m', i ∈ I → j ∈ I → i ≠ j → EntOf ops rP b i m → EntOf ops rP b j m' → e.run m.k m'.k = some false) :
    ∀ (τ : List Nat) (done : List Nat) (ds : List ME) (c : Nat) (H : Heap), (∀ i ∈ τ, i ∈ I) → (∀ i ∈ done, i ∈ I) → (done ++ τ).Nodup → (∀ m ∈ ds, ∃ i ∈ done, ∃ m', EntOf ops rP b i m' ∧ m.k = m'.k) → H.get b = .mp ds c →
      ∃ es ms c' H', (stepsD P nt ops (opsAt ops τ)).run call rP H = .ok es rP H' ∧ H'.get b = .mp (ds ++ ms) c' ∧ (∀ k, b ≠ k → H'.get k = H.get k) ∧ (∀ k, H'.set b k = H.set b k) ∧ (∀ e ∈ es, ∀ k, b ≠ k → e.h.get k = H.get k) ∧
        All2 (fun i (m : ME) => ∃ m', EntOf ops rP b i m' ∧ m.k = m'.k ∧ m.v = m'.v) τ ms
  | [], done, ds, c, H, _, _, _, _, hH => ⟨[], [], c, H, rfl, by rw [List.append_nil]; exact hH, fun _ _ => rfl, fun _ => rfl, fun e he => by simp at he, .nil⟩
  | i :: τ, done, ds, c, H, hτ, hdone, hnd, hds, hH => by
    obtain ⟨o, A, m, ho, hA, ⟨hkf, hke⟩, hm, v, H1, H2, hrun⟩ := hI i (hτ i (by simp))
    obtain ⟨A', hA', hb, hk, hx⟩ := insEnt_eq hm
    rw [hA] at hA'; cases hA'
    have hni : i ∉ done := fun h => by
      rw [List.nodup_append] at hnd
      exact hnd.2.2 i h i (by simp) rfl
    have hstep := dop_insert hkf hA hrun hb H ds c hH (fun m' hm' => by
      obtain ⟨j, hj, mj, hej, hkj⟩ := hds m' hm'
      rw [hkj, hke, ← hk]
      exact hap i j m mj (hτ i (by simp)) (hdone j hj) (fun e => hni (e ▸ hj)) ⟨o, ho, hm⟩ hej)
    obtain ⟨_, hd, _⟩ := insArgs_eq hA
    obtain ⟨es, ms, c', H', g1, g2, g3, g4, g6, g5⟩ := ins_run hI hap τ (done ++ [i]) (ds ++ [⟨(evC A.k).run (trimR rP (readsOf ops o)), (evC A.x).run (trimR rP (readsOf ops o)), c⟩]) (c + 1)
      (H.set b (.mp (ds ++ [⟨(evC A.k).run (trimR rP (readsOf ops o)), (evC A.x).run (trimR rP (readsOf ops o)), c⟩]) (c + 1))) (fun j hj => hτ j (by simp [hj]))
      (fun j hj => by
        rcases List.mem_append.1 hj with h | h
        · exact hdone j h
        · simp only [List.mem_singleton] at h; subst h; exact hτ j (by simp)) (by simpa using hnd)
      (fun m' hm' => by
        rcases List.mem_append.1 hm' with h | h
        · obtain ⟨j, hj, r⟩ := hds m' h
          exact ⟨j, by simp [hj], r⟩
        · simp only [List.mem_singleton] at h; subst h
          exact ⟨i, by simp, m, ⟨o, ho, hm⟩, hk.symm⟩) (by rw [Heap.get_set, if_pos rfl])
    have hsteps := stepsD_mk (os := opsAt ops τ) hstep (by rw [hd]; exact g1)
    rw [show o :: opsAt ops τ = opsAt ops (i :: τ) from by simp [opsAt, ho]] at hsteps
    refine ⟨_, ⟨(evC A.k).run (trimR rP (readsOf ops o)), (evC A.x).run (trimR rP (readsOf ops o)), c⟩ :: ms, c', H', hsteps, by rw [g2, List.append_assoc]; rfl, fun k hk => ?_, fun k => ?_, fun e' he' k hk => ?_, .cons ⟨m, ⟨o, ho, hm⟩, hk.symm, hx.symm⟩ g5⟩
    · rw [g3 k hk, Heap.get_set, if_neg hk]
    · rw [g4]
      unfold Heap.set
      simp only [T.put_put]
    · rcases List.mem_cons.1 he' with rfl | he'
      · rfl
      · rw [g6 e' he' k hk, Heap.get_set, if_neg hk]

/-- entries in whatever order, as pairs -/
def PRel (E : Env) : List (V × V) → List MapEntry → Prop
  | [], l => l = []
  | p :: ps, l => ∃ e es, l = e :: es ∧ Rel E p.1 e.key ∧ Rel E p.2 e.val ∧ PRel E ps es

theorem PRel.perm {E : Env} {ps qs : List (V × V)} (h : ps.Perm qs) : ∀ {l : List MapEntry}, PRel E qs l → ∃ l', PRel E ps l' ∧ l'.Perm l := by
  induction h with
  | nil => intro l h; exact ⟨l, h, .refl _⟩
  | cons x _ ih =>
    intro l h
    obtain ⟨e, es, rfl, h1, h2, h3⟩ := h
    obtain ⟨l', g1, g2⟩ := ih h3
    exact ⟨e :: l', ⟨e, l', rfl, h1, h2, g1⟩, g2.cons e⟩
  | swap x y zs =>
    intro l h
    obtain ⟨e, es, rfl, h1, h2, e', es', rfl, h3, h4, h5⟩ := h
    exact ⟨e' :: e :: es', ⟨e', _, rfl, h3, h4, e, es', rfl, h1, h2, h5⟩, List.Perm.swap _ _ _⟩
  | trans _ _ ih1 ih2 =>
    intro l h
    obtain ⟨l1, g1, g2⟩ := ih2 h
    obtain ⟨l2, g3, g4⟩ := ih1 g1
    exact ⟨l2, g3, g4.trans g2⟩

theorem PRel.of_mrel {E : Env} : ∀ {ms : List ME} {l : List MapEntry}, MRel E ms l → PRel E (ms.map fun m => (m.k, m.v)) l
  | [], l, h => h
  | m :: ms, l, h => by
    obtain ⟨e, es, rfl, h1, h2, _, h4⟩ := h
    exact ⟨e, es, rfl, h1, h2, PRel.of_mrel h4⟩

theorem URel.of_prel {E : Env} : ∀ {ms : List ME} {l : List MapEntry}, PRel E (ms.map fun m => (m.k, m.v)) l → URel E ms l
  | [], l, h => h
  | m :: ms, l, h => by
    obtain ⟨e, es, rfl, h1, h2, h4⟩ := h
    exact ⟨e, es, rfl, h1, h2, URel.of_prel h4⟩

/-- the order of a map's entries is forgotten -/
theorem Sim.forget {w0 : Fr} {E : Env} {h : Heap} {w : World} (s : Sim w0 E h w) {b : Pa} {p : Pl} {es ms : List ME} {c : Nat} (hg : h.get b = .mp es c) (hp : E b = some p) (hperm : (ms.map fun m => (m.k, m.v)).Perm (es.map fun m => (m.k, m.v))) :
    Sim w0 E (h.set b (.mset ms)) w := by
  have hb := s.at hp
  rw [hg] at hb
  obtain ⟨p', a, hp', hB, hh, hm⟩ := hb
  rw [hp] at hp'; cases hp'
  obtain ⟨l, g1, g2⟩ := PRel.perm hperm (PRel.of_mrel hm)
  exact s.set (by rw [hg]; rfl) hp hB (Nat.le_refl _) (fun _ _ => rfl) rfl rfl rfl (fun _ _ _ e => by cases e) ⟨p, a, c, l, hp, hB, hh, URel.of_prel g1, g2⟩

theorem ins_facts : ∀ (l : List Oper), (∀ o ∈ l, o.dst = none) → ∀ {r rf : Regs} {h hf : Heap} {es : List Ent}, (stepsD P nt ops l).run call r h = .ok es rf hf → ∀ o ∈ l, ∃ v H1 H2, (dopC P nt ops o).run call r H1 = .val v H2
  | [], _, _, _, _, _, _, _, o, ho => by simp at ho
  | x :: xs, hd, r, rf, h, hf, es, he, o, ho => by
    obtain ⟨v, h1, es1, q1, q2, rfl⟩ := stepsD_cons he
    rcases List.mem_cons.1 ho with rfl | ho
    · exact ⟨v, h, h1, q1⟩
    · rw [hd x (by simp)] at q2
      exact ins_facts xs (fun o' ho' => hd o' (by simp [ho'])) q2 o ho

theorem loadC_congr {t : TypeId} {H H1 : Heap} {c : Pa} {off : Nat} (h : H.get c = H1.get c) : (loadC P t).run H (.ptr c off) = (loadC P t).run H1 (.ptr c off) := by
  unfold loadC
  cases tiOf P t with
  | none => rfl
  | some ti =>
    simp only
    cases ti.agg with
    | true => simp only [cond_true, loadMany, V.onPtr, h]
    | false =>
      simp only [cond_false]
      cases Nat.beq ti.size 1 with
      | true => simp only [cond_true, loadOne, V.onPtr, h]
      | false => rfl

theorem dop_load {o : Oper} {t : TypeId} {x : Operand} (ho : o.op = .load t x) (hg : o.guard = none) {r : Regs} {H1 h' : Heap} {v : V} (he : (dopC P nt ops o).run call r H1 = .val v h') {c : Pa} {off : Nat} (hx : (evC x).run (trimR r (readsOf ops o)) = .ptr c off)
    (H : Heap) (hH : H.get c = H1.get c) : (dopC P nt ops o).run call r H = .val v H := by
  obtain ⟨h1, h2⟩ := dopC_fine he
  have key : dopC P nt ops o = ⟨dopRun none (cop P o) (readsOf ops o)⟩ := by
    unfold dopC
    rw [show (dstFine nt o.dst && smallT (readsOf ops o)) = true from by rw [h1, h2]; rfl, hg]
    rfl
  rw [key] at he ⊢
  simp only [dopRun] at he ⊢
  have hcop : ∀ H, (cop P o).run call (trimR r (readsOf ops o)) H = OR.of H ((loadC P t).run H (.ptr c off)) := by
    intro H
    unfold cop
    rw [ho]
    simp only [hx]
  rw [hcop] at he ⊢
  rw [loadC_congr hH]
  exact OR.of_any he H

theorem loadsFine_get {es : List Ent} {h : Heap} {b : Pa} : ∀ {is : List Nat} {p : Nat}, loadsFine P ops es h b call nt is p = true → ∀ q i o t x, is[q]? = some i → ops[i]? = some o → o.op = .load t x →
    ∃ e c off h', es[p + q]? = some e ∧ (evC x).run (trimR e.r (readsOf ops o)) = .ptr c off ∧ c ≠ b ∧ o.guard = none ∧ (dopC P nt ops o).run call e.r h = .val e.v h'
  | [], _, _, q, i, o, t, x, h, _, _ => by simp at h
  | j :: js, p, hl, q, i, o, t, x, hq, ho, hop => by
    simp only [loadsFine] at hl
    cases q with
    | succ q =>
      cases hj : ops[j]? with
      | none => rw [hj] at hl; cases hl
      | some oj =>
        rw [hj] at hl
        simp only [Bool.and_eq_true] at hl
        have := loadsFine_get hl.2 q i o t x (by simpa using hq) ho hop
        rw [show p + (q + 1) = p + 1 + q from by omega]
        exact this
    | zero =>
      simp only [List.getElem?_cons_zero, Option.some.injEq] at hq
      subst hq
      rw [ho] at hl
      simp only [Bool.and_eq_true] at hl
      have h1 := hl.1
      rw [hop] at h1
      simp only at h1
      rw [Nat.add_zero]
      cases he : es[p]? with
      | none => rw [he] at h1; cases h1
      | some e =>
        rw [he] at h1
        simp only at h1
        cases hx : (evC x).run (trimR e.r (readsOf ops o)) <;> rw [hx] at h1 <;> simp only at h1 <;> try (cases h1; done)
        rename_i c off
        simp only [Bool.and_eq_true, Bool.not_eq_true'] at h1
        cases hg : o.guard with
        | some _ => rw [hg] at h1; cases h1.2
        | none =>
          rw [hg] at h1
          simp only at h1
          have h2 := h1.2
          cases hr : (dopC P nt ops o).run call e.r h with
          | fail => rw [hr] at h2; cases h2
          | pan _ _ => rw [hr] at h2; cases h2
          | val v h' =>
            rw [hr] at h2
            have hv := eqV_eq h2
            exact ⟨e, c, off, h', rfl, hx, (fun e => by rw [e, Pa.eqB_refl] at h1; cases h1.1), rfl, by rw [hr, hv]⟩

theorem idx_of {k : Nat} : ∀ {l : List Nat} {p : Nat}, l.Nodup → l[p]? = some k → l.idxOf k = p
  | [], _, _, h => by simp at h
  | x :: xs, p, hn, h => by
    rw [List.nodup_cons] at hn
    cases p with
    | zero =>
      simp only [List.getElem?_cons_zero, Option.some.injEq] at h
      subst h
      simp
    | succ p =>
      have hx : xs[p]? = some k := by simpa using h
      have hne : x ≠ k := fun e => hn.1 (e ▸ List.mem_of_getElem? hx)
      rw [List.idxOf_cons]
      simp only [beq_iff_eq, hne, cond_false, show (x == k) = false from by simpa using hne]
      rw [idx_of hn.2 hx]

def isInsAt (ops : Array Oper) (i : Nat) : Bool :=
  match ops[i]? with
  | some o => isIns o
  | none => false

theorem isIns_of {o : Oper} {A : InsA} (h : insArgs o = some A) : isIns o = true ∧ isEff P o.op = true ∧ isAlloc o = false := by
  obtain ⟨ho, _, _⟩ := insArgs_eq h
  refine ⟨by unfold isIns; rw [ho], by rw [ho]; rfl, by unfold isAlloc; rw [ho]⟩

theorem litFine_spec {poss : List Nat} {n0 n1 : Nat} {t : TypeId} (hf : litFine P ops poss n0 n1 t = true) : ∀ i o, ops[i]? = some o → ∃ mi, (masksFrom [] ops.toList)[i]? = some mi ∧ onFine i o = true ∧
    (∀ k ok, ops[k]? = some ok → ∃ mk, (masksFrom [] ops.toList)[k]? = some mk ∧ pairFine i mi (readsOf ops o) o.dst k mk ok (Nat.blt (posOf poss k) (posOf poss i)) = true) ∧
    (posOf poss i < n0 → isIns o = false ∧ isChain P o = false ∧ (looks o.op = true → isEff P o.op = false → ∃ t x, o.op = .load t x)) ∧
    (¬ posOf poss i < n0 → posOf poss i < n1 → ∃ A, insArgs o = some A ∧ A.t = t) ∧
    (¬ posOf poss i < n0 → ¬ posOf poss i < n1 → isEff P o.op = false ∧ looks o.op = false) := by
  unfold litFine at hf
  simp only [Bool.and_eq_true] at hf
  replace hf := hf.2
  intro i o hi
  obtain ⟨mi, h1, h2⟩ := zipAll_get hf i o (by simpa using hi)
  simp only [Nat.zero_add, Bool.and_eq_true] at h2
  obtain ⟨⟨h3, h4⟩, h5⟩ := h2
  refine ⟨mi, h1, h3, fun k ok hk => ?_, fun hlt => ?_, fun hge hlt => ?_, fun hge hge2 => ?_⟩
  · obtain ⟨mk, k1, k2⟩ := zipAll_get h4 k ok (by simpa using hk)
    simp only [Nat.zero_add] at k2
    exact ⟨mk, k1, k2⟩
  · rw [show Nat.blt (posOf poss i) n0 = true from by rw [Nat.blt_eq]; exact hlt] at h5
    simp only [cond_true, Bool.and_eq_true, Bool.not_eq_true', Bool.or_eq_true] at h5
    refine ⟨h5.1.1, h5.1.2, fun hl he => ?_⟩
    rcases h5.2 with (h | h) | h
    · rw [hl] at h; cases h
    · rw [he] at h; cases h
    · cases hop : o.op <;> rw [hop] at h <;> simp only at h <;> first
        | (cases h; done)
        | exact ⟨_, _, rfl⟩
  · rw [show Nat.blt (posOf poss i) n0 = false from by rw [← Bool.not_eq_true, Nat.blt_eq]; exact hge, show Nat.blt (posOf poss i) n1 = true from by rw [Nat.blt_eq]; exact hlt] at h5
    simp only [cond_true, cond_false] at h5
    cases ha : insArgs o with
    | none => rw [ha] at h5; cases h5
    | some A => rw [ha] at h5; exact ⟨A, rfl, Nat.eq_of_beq_eq_true h5⟩
  · rw [show Nat.blt (posOf poss i) n0 = false from by rw [← Bool.not_eq_true, Nat.blt_eq]; exact hge, show Nat.blt (posOf poss i) n1 = false from by rw [← Bool.not_eq_true, Nat.blt_eq]; exact hge2] at h5
    simp only [cond_false, Bool.and_eq_true, Bool.not_eq_true'] at h5
    exact h5

theorem litMap_spec {order : List Nat} {es : List Ent} {n0 : Nat} {b : Pa} {rP : Regs} {A : InsA} (h : litMap ops order es n0 = some (b, rP, A)) :
    ∃ e i o, es[n0]? = some e ∧ order[n0]? = some i ∧ ops[i]? = some o ∧ insArgs o = some A ∧ e.r = rP := by
  unfold litMap at h
  cases he : es[n0]? with
  | none => rw [he] at h; cases h
  | some e =>
    rw [he] at h
    simp only at h
    cases hi : order[n0]? with
    | none => rw [hi] at h; cases h
    | some i =>
      rw [hi] at h
      simp only at h
      cases ho : ops[i]? with
      | none => rw [ho] at h; cases h
      | some o =>
        rw [ho] at h
        simp only at h
        cases ha : insArgs o with
        | none => rw [ha] at h; cases h
        | some A' =>
          rw [ha] at h
          simp only at h
          cases hm : (evC A'.m).run (trimR e.r (readsOf ops o)) <;> rw [hm] at h <;> simp only at h <;> try (cases h; done)
          simp only [Option.some.injEq, Prod.mk.injEq] at h
          obtain ⟨_, h2, rfl⟩ := h
          exact ⟨e, i, o, rfl, rfl, ho, ha, h2⟩

theorem map_of_ents {r : Regs} {b : Pa} {f : Nat → V × V} (hf : ∀ i m, EntOf ops r b i m → f i = (m.k, m.v)) : ∀ {is : List Nat} {ms : List ME}, All2 (fun i (m : ME) => ∃ m', EntOf ops r b i m' ∧ m.k = m'.k ∧ m.v = m'.v) is ms → ms.map (fun m => (m.k, m.v)) = is.map f
  | _, _, .nil => rfl
  | _, _, .cons (a := i) (b := m) h0 ht => by
    obtain ⟨m', h1, h2, h3⟩ := h0
    simp only [List.map_cons, map_of_ents hf ht, hf i m' h1, h2, h3]

theorem posOf_at {n : Nat} {order poss : List Nat} (hperm : permOk n order poss = true) {p i : Nat} (h : order[p]? = some i) : posOf poss i = p ∧ i < n := by
  unfold permOk at hperm
  simp only [Bool.and_eq_true, Nat.beq_eq] at hperm
  obtain ⟨_, h2, _, h4⟩ := hperm
  have := permAt_get h4 h
  rw [Nat.zero_add] at this
  refine ⟨by unfold posOf; rw [this]; rfl, ?_⟩
  have := (List.getElem?_eq_some_iff.1 this).1
  omega

theorem nodup_of_pos {l : List Nat} {f : Nat → Nat} (h : ∀ p i, l[p]? = some i → f i = p) : l.Nodup := by
  rw [List.Nodup, List.pairwise_iff_getElem]
  intro i j hi hj hij he
  have h1 := h i _ (List.getElem?_eq_getElem hi)
  have h2 := h j _ (List.getElem?_eq_getElem hj)
  rw [he, h2] at h1
  omega

theorem All2.left {α β : Type} {R : α → β → Prop} : ∀ {l1 : List α} {l2 : List β}, All2 R l1 l2 → ∀ x ∈ l1, ∃ y ∈ l2, R x y
  | _, _, .nil, x, h => by simp at h
  | _, _, .cons h0 ht, x, h => by
    rcases List.mem_cons.1 h with rfl | h
    · exact ⟨_, by simp, h0⟩
    · obtain ⟨y, h1, h2⟩ := ht.left x h
      exact ⟨y, by simp [h1], h2⟩

theorem isIns_eff {o : Oper} (h : isIns o = true) : isEff P o.op = true ∧ isAlloc o = false := by
  unfold isIns at h
  unfold isAlloc
  cases ho : o.op <;> rw [ho] at h <;> simp only at h <;> first
    | (cases h; done)
    | exact ⟨rfl, rfl⟩

/-- where a list stands in three -/
theorem three_at {pre σ post : List Nat} (hnd : (pre ++ (σ ++ post)).Nodup) (k q : Nat) : (pre[q]? = some k → (pre ++ (σ ++ post)).idxOf k = q) ∧ (σ[q]? = some k → (pre ++ (σ ++ post)).idxOf k = pre.length + q) ∧ (post[q]? = some k → (pre ++ (σ ++ post)).idxOf k = pre.length + σ.length + q) := by
  refine ⟨fun h => idx_of hnd ?_, fun h => idx_of hnd ?_, fun h => idx_of hnd ?_⟩
  · have := (List.getElem?_eq_some_iff.1 h).1
    rw [List.getElem?_append_left this]
    exact h
  · have := (List.getElem?_eq_some_iff.1 h).1
    rw [List.getElem?_append_right (by omega), Nat.add_sub_cancel_left, List.getElem?_append_left this]
    exact h
  · rw [List.getElem?_append_right (by omega), List.getElem?_append_right (by omega)]
    rw [show pre.length + σ.length + q - pre.length - σ.length = q from by omega]
    exact h

theorem lit_go {rd : Option Nat} {D : List Deferred} {w0 : Fr} {calls : Nat → CallF} {es : List Ent} {r0 : Regs} {h0 : Heap} {rf : Regs} {hf : Heap} {starts order poss : List Nat} (hN : NamesOk P) (hcall : ∀ i, CallOk P (calls i)) (hbody : ∀ i, CallBody P (calls i))
    (C : Cert P nt ops calls es r0 h0 rf hf starts order poss ops.size ops.size true) {E0 : Env} {Q : Exit → Act → World → Prop}
    (hQ : ∀ E' a' w', E0.le E' → RegRel0 E' nt rf a' → a'.defers = D → Sim w0 E' hf w' → Q .normal a' w') {S0 : List Nat}
    (hS : ∀ i k, isInsAt ops i = true → isInsAt ops k = true → posOf poss k < posOf poss i → ∀ a b, S0 = a ++ i :: b → k ∈ a) :
    ∀ (fuel t : Nat) (listed : Array Bool) (done : List Nat) (a : Act) (w : World), S0 = done ++ Region.linearise.go .any ops fuel t listed [] → (∀ k, k < ops.size → (listed.getD k false = true ↔ k ∈ done)) →
      (List.range ops.size).countP (fun i => !listed.getD i false) ≤ fuel → DInv P w0 nt ops es r0 hf starts poss E0 ops.size D listed a w → wpOpsIn (Wd rd) 0 P ops Q (Region.linearise.go .any ops fuel t listed []) a w := by
  have hon : ∀ i o, ops[i]? = some o → onFine i o = true := fun i o h => by obtain ⟨_, _, h2, _⟩ := C.fine i o h; exact h2
  have fin : ∀ (listed : Array Bool) (a : Act) (w : World), (∀ k, k < ops.size → listed.getD k false = true) → DInv P w0 nt ops es r0 hf starts poss E0 ops.size D listed a w → Q .normal a w := by
    intro listed a w hall I
    obtain ⟨E', g1, g2, g3, g4⟩ := dinv_full C (Nat.le_refl _) I fun k hk _ => hall k hk
    exact hQ E' a w g1 g2 g3 g4
  intro fuel
  induction fuel with
  | zero =>
    intro t listed done a w hS0 hld hc I
    have h0 : (List.range ops.size).countP (fun i => !listed.getD i false) = 0 := by omega
    rw [List.countP_eq_zero] at h0
    exact fin listed a w (fun k hk => by simpa using h0 k (List.mem_range.2 hk)) I
  | succ fuel ih =>
    intro t listed done a w hS0 hld hc I
    rw [go_succ] at hS0 ⊢
    cases hr : readyAt ops t listed with
    | none => exact fin listed a w (fun k hk => ready_nil hon I.lsize (readyAt_none hr) k hk) I
    | some i =>
      rw [hr] at hS0
      simp only at hS0 ⊢
      obtain ⟨i1, i2⟩ := ready_not I.lsize (readyAt_some hr)
      have hl : i < listed.size := by rw [I.lsize]; exact i1
      have hcnt := count_set I.lsize i1 i2
      rw [wpOpsIn_cons]
      refine draw_step hN hcall hbody C I (readyAt_some hr) (C.posLt i i1).1 (fun _ o k ok hio hins hko hkins hlt => ?_) (fun a' w' I' => ih _ _ (done ++ [i]) a' w' (by rw [List.append_assoc]; exact hS0) (fun k hk => ?_) (by omega) I') (fun _ _ _ _ _ _ _ h => absurd h (Nat.lt_irrefl _))
      · have hk : k < ops.size := (Array.getElem?_eq_some_iff.1 hko).1
        exact (hld k hk).2 (hS i k (by unfold isInsAt; rw [hio]; exact hins) (by unfold isInsAt; rw [hko]; exact hkins) hlt _ _ hS0)
      · rw [getD_set hl, hld k hk, List.mem_append, List.mem_singleton]
        exact Or.comm

/-- an entry's key and value -/
noncomputable def entPair (ops : Array Oper) (r : Regs) (b : Pa) (i : Nat) : V × V :=
  match ops[i]? with
  | some o => (match insEnt ops r b o with
    | some m => (m.k, m.v)
    | none => (.bad, .bad))
  | none => (.bad, .bad)

theorem entPair_of {r : Regs} {b : Pa} {i : Nat} {m : ME} (h : EntOf ops r b i m) : entPair ops r b i = (m.k, m.v) := by
  obtain ⟨o, h1, h2⟩ := h
  unfold entPair
  rw [h1]
  simp only [h2]

theorem map_of_ents0 {r : Regs} {b : Pa} : ∀ {is : List Nat} {ms : List ME}, All2 (EntOf ops r b) is ms → ms.map (fun m => (m.k, m.v)) = is.map (entPair ops r b)
  | _, _, .nil => rfl
  | _, _, .cons h0 ht => by
    simp only [List.map_cons, map_of_ents0 ht, entPair_of h0]

set_option maxHeartbeats 1000000 in
theorem lit_sound {rd : Option Nat} {w0 : Fr} {E : Env} {h : Heap} {w : World} {id : Nat} (hM : P.follows .mixedOrders = true) (hN : NamesOk P) (hcall : CallOk P call) (hbody : CallBody P call) {r : Regs} {a : Act} {order poss : List Nat} {n0 n1 : Nat} (hperm : permOk ops.size order poss = true)
    {Q : Exit → Act → World → Prop} (hp : PostR w0 E nt (Q .normal) Q (litRun P nt ops order poss n0 n1 (stepsD P nt ops (opsAt ops order)) call r h)) (k : RegRel E nt r a) (s : Sim w0 E h w) : (Code.region id ops true).wpIn (Wd rd) 0 P Q a w := by
  unfold litRun at hp
  cases hrun : (stepsD P nt ops (opsAt ops order)).run call r h with
  | fail => rw [hrun] at hp; exact hp.elim
  | pan _ _ _ _ _ => rw [hrun] at hp; exact hp.elim
  | ok es rr hh =>
  rw [hrun] at hp
  simp only at hp
  cases hmap : litMap ops order es n0 with
  | none => rw [hmap] at hp; exact hp.elim
  | some x =>
  obtain ⟨b, rP, A⟩ := x
  rw [hmap] at hp
  simp only at hp
  cases hblk : (heapAt es hh n0).get b <;> rw [hblk] at hp <;> try (exact False.elim hp)
  rename_i es0 c0
  cases es0 with
  | cons _ _ => exact False.elim hp
  | nil =>
  simp only at hp
  cases hms : insEnts ops rP b ((order.drop n0).take (n1 - n0)) with
  | none => rw [hms] at hp; exact hp.elim
  | some ms =>
  rw [hms] at hp
  simp only at hp
  cases hc : (litFine P ops poss n0 n1 A.t && (apartAll (keyEq P A.t) ms && (loadsFine P ops es (heapAt es hh n0) b call nt (order.take n0) 0 && eqV ((evC A.m).run rr) (.map b)))) with
  | false => rw [hc] at hp; exact hp.elim
  | true =>
  rw [hc] at hp
  simp only [cond_true] at hp
  simp only [Bool.and_eq_true] at hc
  obtain ⟨hlf, hap, hlo, hmv⟩ := hc
  have hmv := eqV_eq hmv
  obtain ⟨ho1, posLt0, ordAt0⟩ := permOk_spec hperm
  have hnd0 : order.Nodup := nodup_of_pos fun p i h => (posOf_at hperm h).1
  obtain ⟨e0, i0, o0, he0, hi0, hoi0, hA0, her0⟩ := litMap_spec hmap
  obtain ⟨qlen, -, -, -⟩ := stepsD_spec hrun
  have hlen : es.length = ops.size := by rw [qlen, opsAt_length, ho1]
  have hn0 : n0 < ops.size := by rw [← ho1]; exact (List.getElem?_eq_some_iff.1 hi0).1
  have fine := litFine_spec hlf
  -- three parts
  generalize hpre : order.take n0 = pre at hlo
  generalize hins : (order.drop n0).take (n1 - n0) = ins at hms
  generalize hpost : (order.drop n0).drop (n1 - n0) = post
  have hord : order = pre ++ (ins ++ post) := by rw [← hpre, ← hins, ← hpost, List.take_append_drop, List.take_append_drop]
  have hprel : pre.length = n0 := by rw [← hpre, List.length_take]; omega
  have hn01 : n0 < n1 := by
    obtain ⟨hp0, _⟩ := posOf_at hperm hi0
    rcases Nat.lt_or_ge n0 n1 with h | h
    · exact h
    · exfalso
      obtain ⟨_, _, _, _, _, _, f3⟩ := fine i0 o0 hoi0
      obtain ⟨hx, _⟩ := f3 (by omega) (by omega)
      rw [(isIns_of (P := P) hA0).2.1] at hx
      cases hx
  have hinsl : ins.length = n1 - n0 ∨ post = [] := by
    rcases Nat.lt_or_ge (n1 - n0) (order.drop n0).length with h | h
    · left; rw [← hins, List.length_take]; omega
    · right; rw [← hpost]; exact List.drop_eq_nil_of_le h
  -- classes
  have atPre : ∀ q i, pre[q]? = some i → posOf poss i = q ∧ i < ops.size ∧ q < n0 := by
    intro q i h
    have hq := (List.getElem?_eq_some_iff.1 h).1
    obtain ⟨h1, h2⟩ := posOf_at hperm (p := q) (i := i) (by rw [hord, List.getElem?_append_left hq]; exact h)
    exact ⟨h1, h2, by omega⟩
  have atIns : ∀ q i, ins[q]? = some i → posOf poss i = n0 + q ∧ i < ops.size ∧ n0 + q < n1 := by
    intro q i h
    have hq := (List.getElem?_eq_some_iff.1 h).1
    obtain ⟨h1, h2⟩ := posOf_at hperm (p := n0 + q) (i := i) (by
      rw [hord, List.getElem?_append_right (by omega), hprel, Nat.add_sub_cancel_left, List.getElem?_append_left hq]; exact h)
    refine ⟨h1, h2, ?_⟩
    have : ins.length ≤ n1 - n0 := by rw [← hins, List.length_take]; omega
    omega
  have atPost : ∀ q i, post[q]? = some i → posOf poss i = n0 + ins.length + q ∧ i < ops.size ∧ ins.length = n1 - n0 := by
    intro q i h
    have hl : ins.length = n1 - n0 := by
      rcases hinsl with h' | h'
      · exact h'
      · rw [h'] at h; simp at h
    obtain ⟨h1, h2⟩ := posOf_at hperm (p := n0 + ins.length + q) (i := i) (by
      rw [hord, List.getElem?_append_right (by omega), List.getElem?_append_right (by omega), hprel, show n0 + ins.length + q - n0 - ins.length = q from by omega]; exact h)
    exact ⟨h1, h2, hl⟩
  have which : ∀ i, i < ops.size → (∃ q : Nat, pre[q]? = some i) ∨ (∃ q : Nat, ins[q]? = some i) ∨ ∃ q : Nat, post[q]? = some i := by
    intro i hi
    have hm : i ∈ order := List.mem_of_getElem? (posLt0 i hi).2
    rw [hord, List.mem_append, List.mem_append] at hm
    rcases hm with h | h | h
    · exact .inl (List.mem_iff_getElem?.1 h)
    · exact .inr (.inl (List.mem_iff_getElem?.1 h))
    · exact .inr (.inr (List.mem_iff_getElem?.1 h))
  have preF : ∀ i o, i ∈ pre → ops[i]? = some o → isIns o = false ∧ isChain P o = false ∧ (looks o.op = true → isEff P o.op = false → ∃ t x, o.op = .load t x) := by
    intro i o hi ho
    obtain ⟨q, hq⟩ := List.mem_iff_getElem?.1 hi
    obtain ⟨h1, h2, h3⟩ := atPre q i hq
    obtain ⟨_, _, _, _, f1, _, _⟩ := fine i o ho
    exact f1 (by omega)
  have insF : ∀ i, i ∈ ins → ∃ o A', ops[i]? = some o ∧ insArgs o = some A' ∧ A'.t = A.t := by
    intro i hi
    obtain ⟨q, hq⟩ := List.mem_iff_getElem?.1 hi
    obtain ⟨h1, h2, h3⟩ := atIns q i hq
    obtain ⟨_, _, _, _, _, f2, _⟩ := fine i _ (Array.getElem?_eq_getElem h2)
    obtain ⟨A', g1, g2⟩ := f2 (by omega) (by omega)
    exact ⟨_, A', Array.getElem?_eq_getElem h2, g1, g2⟩
  have postF : ∀ i o, i ∈ post → ops[i]? = some o → isEff P o.op = false ∧ looks o.op = false := by
    intro i o hi ho
    obtain ⟨q, hq⟩ := List.mem_iff_getElem?.1 hi
    obtain ⟨h1, h2, h3⟩ := atPost q i hq
    obtain ⟨_, _, _, _, _, _, f3⟩ := fine i o ho
    exact f3 (by omega) (by omega)
  have insAt : ∀ i, i < ops.size → (isInsAt ops i = true ↔ i ∈ ins) := by
    intro i hi
    have hio : ops[i]? = some ops[i] := Array.getElem?_eq_getElem hi
    constructor
    · intro h
      unfold isInsAt at h
      rw [hio] at h
      simp only at h
      rcases which i hi with ⟨q, hq⟩ | ⟨q, hq⟩ | ⟨q, hq⟩
      · rw [(preF i _ (List.mem_of_getElem? hq) hio).1] at h; cases h
      · exact List.mem_of_getElem? hq
      · have := (postF i _ (List.mem_of_getElem? hq) hio).1
        rw [(isIns_eff (P := P) h).1] at this
        cases this
    · intro h
      obtain ⟨o, A', g1, g2, _⟩ := insF i h
      unfold isInsAt
      rw [g1]
      exact (isIns_of (P := P) g2).1
  have hndI : ins.Nodup := by
    rw [hord] at hnd0
    exact (List.nodup_append.1 (List.nodup_append.1 hnd0).2.1).1
  -- the machine's run, cut
  have hrun2 := hrun
  rw [hord, opsAt_append, opsAt_append] at hrun2
  obtain ⟨es1, r1, h1, es23, hr1, hr23, hes⟩ := stepsD_append _ _ hrun2
  obtain ⟨es2, r2, h2, es3, hr2, hr3, hes23⟩ := stepsD_append _ _ hr23
  obtain ⟨l1, -, -, -⟩ := stepsD_spec hr1
  rw [opsAt_length, hprel] at l1
  obtain ⟨-, w1, w2, -⟩ := stepsD_spec hr23
  have hes0 : es23[0]? = some e0 := by
    rw [hes, List.getElem?_append_right (by omega), l1, Nat.sub_self] at he0
    exact he0
  have hrP : r1 = rP := by
    unfold regAt at w2
    rw [hes0] at w2
    exact w2.symm.trans her0
  have hhP : heapAt es hh n0 = h1 := by
    unfold heapAt at w1 ⊢
    rw [he0]
    rw [hes0] at w1
    exact w1
  subst hrP
  rw [hhP] at hblk hlo
  have hI : ∀ i ∈ ins, ∃ o A' m, ops[i]? = some o ∧ insArgs o = some A' ∧ (keyFitsT P A'.t = true ∧ keyEq P A'.t = keyEq P A.t) ∧ insEnt ops r1 b o = some m ∧ ∃ v H1 H2, (dopC P nt ops o).run call r1 H1 = .val v H2 := by
    intro i hi
    obtain ⟨o, A', g1, g2, g3⟩ := insF i hi
    obtain ⟨m, _, o', g4, g5⟩ := (insEnts_all hms).left i hi
    rw [g1] at g4; cases g4
    refine ⟨o, A', m, g1, g2, ⟨by rw [g3]; unfold litFine at hlf; rw [Bool.and_eq_true] at hlf; exact hlf.1, by rw [g3]⟩, g5, ins_facts (opsAt ops ins) (fun o2 ho2 => ?_) hr2 o ?_⟩
    · obtain ⟨q, hq⟩ := List.mem_iff_getElem?.1 ho2
      have hql : q < ins.length := by rw [← opsAt_length (ops := ops)]; exact (List.getElem?_eq_some_iff.1 hq).1
      obtain ⟨o3, A3, j1, j2, _⟩ := insF _ (List.getElem_mem hql)
      have := opsAt_get (List.getElem?_eq_getElem hql) j1
      rw [hq] at this; cases this
      exact (insArgs_eq j2).2.1
    · obtain ⟨q, hq⟩ := List.mem_iff_getElem?.1 hi
      exact List.mem_of_getElem? (opsAt_get hq g1)
  have hapart := apart_of (insEnts_all hms) hndI hap
  obtain ⟨esI, msI, cI, HI, gI1, gI2, gI3, gI4, _, gI5⟩ := ins_run hI hapart ins [] [] c0 h1 (fun i hi => hi) (fun i hi => by simp at hi) (by simpa using hndI) (fun m hm => by simp at hm) hblk
  rw [hr2] at gI1
  simp only [DR.ok.injEq] at gI1
  obtain ⟨-, hr12, hHI⟩ := gI1
  subst hr12 hHI
  obtain ⟨hh2, hquiet⟩ := quiet_run (opsAt ops post) (fun o2 ho2 => by
    obtain ⟨q, hq⟩ := List.mem_iff_getElem?.1 ho2
    have hql : q < post.length := by rw [← opsAt_length (ops := ops)]; exact (List.getElem?_eq_some_iff.1 hq).1
    obtain ⟨_, hjs, _⟩ := atPost q _ (List.getElem?_eq_getElem hql)
    have := opsAt_get (List.getElem?_eq_getElem hql) (Array.getElem?_eq_getElem hjs)
    rw [hq] at this; cases this
    exact postF _ _ (List.getElem_mem hql) (Array.getElem?_eq_getElem hjs)) hr3
  subst hh2
  -- each schedule
  refine wpIn_region_draw fun t => ?_
  simp only [Region.schedule, hM, Bool.true_or, if_true]
  have hon : ∀ i o, ops[i]? = some o → onFine i o = true := fun i o h => by obtain ⟨_, _, h2, _⟩ := fine i o h; exact h2
  have hnone : ∀ k, ¬ (Array.replicate ops.size false).getD k false = true := by
    intro k
    rw [getD_iff, Array.getElem?_replicate]
    split <;> simp
  obtain ⟨s1, s2, s3⟩ := go_spec (ops := ops) hon ops.size t (Array.replicate ops.size false) (by simp) (Nat.le_trans List.countP_le_length (by simp))
  change wpOpsIn (Wd rd) 0 P ops Q (Region.linearise.go .any ops ops.size t (Array.replicate ops.size false) []) a { w with drawn := w.drawn + 1 }
  generalize hS0 : Region.linearise.go .any ops ops.size t (Array.replicate ops.size false) [] = S0 at s1 s2 s3
  generalize hσ : S0.filter (isInsAt ops) = σ
  have memσ : ∀ k, k ∈ σ ↔ k ∈ ins := by
    intro k
    rw [← hσ, List.mem_filter]
    constructor
    · rintro ⟨g1, g2⟩
      exact (insAt k (s2 k g1).1).1 g2
    · intro g
      obtain ⟨q, hq⟩ := List.mem_iff_getElem?.1 g
      have hk := (atIns q k hq).2.1
      refine ⟨?_, (insAt k hk).2 g⟩
      rcases s3 k hk with h | h
      · exact absurd h (hnone k)
      · exact h
  have hndσ : σ.Nodup := by rw [← hσ]; exact s1.filter _
  have hpermσ : σ.Perm ins := (List.perm_ext_iff_of_nodup hndσ hndI).2 memσ
  have hσl : σ.length = ins.length := hpermσ.length_eq
  have hpo : (pre ++ (σ ++ post)).Perm order := by
    rw [hord]
    exact (hpermσ.append_right post).append_left pre
  have hndo : (pre ++ (σ ++ post)).Nodup := hpo.nodup_iff.2 hnd0
  have hlo2 : (pre ++ (σ ++ post)).length = ops.size := by rw [hpo.length_eq, ho1]
  have at3 := three_at hndo
  generalize hposs : (List.range ops.size).map (fun k => (pre ++ (σ ++ post)).idxOf k) = poss2
  have hpos2 : ∀ k, k < ops.size → posOf poss2 k = (pre ++ (σ ++ post)).idxOf k := by
    intro k hk
    rw [← hposs]
    unfold posOf
    rw [List.getElem?_map, List.getElem?_range hk]
    rfl
  -- where each stands
  have pPre : ∀ i, i < ops.size → i ∈ pre → posOf poss2 i = posOf poss i ∧ posOf poss i < n0 := by
    intro i hi hm
    obtain ⟨q, hq⟩ := List.mem_iff_getElem?.1 hm
    obtain ⟨g1, _, g3⟩ := atPre q i hq
    rw [hpos2 i hi, (at3 i q).1 hq, g1]
    exact ⟨rfl, g3⟩
  have pIns : ∀ i, i < ops.size → i ∈ ins → ∃ q : Nat, σ[q]? = some i ∧ posOf poss2 i = n0 + q ∧ q < ins.length ∧ n0 ≤ posOf poss i ∧ posOf poss i < n0 + ins.length := by
    intro i hi hm
    obtain ⟨q, hq⟩ := List.mem_iff_getElem?.1 ((memσ i).2 hm)
    obtain ⟨q', hq'⟩ := List.mem_iff_getElem?.1 hm
    obtain ⟨g1, _, g3⟩ := atIns q' i hq'
    have := (List.getElem?_eq_some_iff.1 hq).1
    have := (List.getElem?_eq_some_iff.1 hq').1
    exact ⟨q, hq, by rw [hpos2 i hi, (at3 i q).2.1 hq, hprel], by omega, by omega, by omega⟩
  have pPost : ∀ i, i < ops.size → i ∈ post → posOf poss2 i = posOf poss i ∧ n0 + ins.length ≤ posOf poss i := by
    intro i hi hm
    obtain ⟨q, hq⟩ := List.mem_iff_getElem?.1 hm
    obtain ⟨g1, _, _⟩ := atPost q i hq
    rw [hpos2 i hi, (at3 i q).2.2 hq, g1, hσl, hprel]
    exact ⟨rfl, by omega⟩
  have cls : ∀ i, i < ops.size → i ∈ pre ∨ i ∈ ins ∨ i ∈ post := by
    intro i hi
    rcases which i hi with ⟨q, hq⟩ | ⟨q, hq⟩ | ⟨q, hq⟩
    · exact .inl (List.mem_of_getElem? hq)
    · exact .inr (.inl (List.mem_of_getElem? hq))
    · exact .inr (.inr (List.mem_of_getElem? hq))
  -- the machine's run in this order
  obtain ⟨esS, msS, cS, HS, gS1, gS2, gS3, gS4, gS6, gS5⟩ := ins_run hI hapart σ [] [] c0 h1 (fun i hi => (memσ i).1 hi) (fun i hi => by simp at hi) (by simpa using hndσ) (fun m hm => by simp at hm) hblk
  obtain ⟨es3', hr3'⟩ := hquiet HS
  have hrunS := stepsD_join _ _ hr1 (stepsD_join _ _ gS1 hr3')
  rw [← opsAt_append, ← opsAt_append] at hrunS
  obtain ⟨lS, -, -, -⟩ := stepsD_spec gS1
  rw [opsAt_length, hσl] at lS
  obtain ⟨z1, z2, z3, z4⟩ := stepsD_spec hrunS
  rw [opsAt_length, hlo2] at z1
  have posLt2 : ∀ k, k < ops.size → posOf poss2 k < ops.size ∧ (pre ++ (σ ++ post))[posOf poss2 k]? = some k := by
    intro k hk
    have hm : k ∈ pre ++ (σ ++ post) := hpo.mem_iff.2 (List.mem_of_getElem? (posLt0 k hk).2)
    obtain ⟨q, hq⟩ := List.mem_iff_getElem?.1 hm
    have hqq := idx_of hndo hq
    rw [hpos2 k hk, hqq]
    have := (List.getElem?_eq_some_iff.1 hq).1
    exact ⟨by omega, hq⟩
  have ordAt2 : ∀ p, p < ops.size → ∃ i, i < ops.size ∧ posOf poss2 i = p := by
    intro p hp
    have hq : (pre ++ (σ ++ post))[p]? = some ((pre ++ (σ ++ post))[p]'(by omega)) := List.getElem?_eq_getElem _
    have hm : (pre ++ (σ ++ post))[p]'(by omega) ∈ order := hpo.mem_iff.1 (List.getElem_mem _)
    obtain ⟨q, hq2⟩ := List.mem_iff_getElem?.1 hm
    have hlt := (posOf_at hperm hq2).2
    exact ⟨_, hlt, by rw [hpos2 _ hlt]; exact idx_of hndo hq⟩
  have chainIns : ∀ j o, ops[j]? = some o → isChain P o = true → j ∈ ins := by
    intro j o ho hch
    rcases cls j (Array.getElem?_eq_some_iff.1 ho).1 with h | h | h
    · rw [(preF j o h ho).2.1] at hch; cases hch
    · exact h
    · unfold isChain at hch
      rw [(postF j o h ho).1] at hch
      cases hch
  have insDst : ∀ k ok, k ∈ ins → ops[k]? = some ok → ok.dst = none ∧ isIns ok = true := by
    intro k ok hk hok
    obtain ⟨o, A', g1, g2, _⟩ := insF k hk
    rw [hok] at g1; cases g1
    exact ⟨(insArgs_eq g2).2.1, (isIns_of (P := P) g2).1⟩
  -- memory behind the first part, but for the map
  have away : ∀ st, st = ops.size ∨ (∃ k, k < ops.size ∧ k ∈ ins ∧ st = posOf poss2 k) → ∀ c, b ≠ c → (heapAt (es1 ++ (esS ++ es3')) HS st).get c = h1.get c := by
    rintro st (rfl | ⟨k, hk, hki, rfl⟩) c hc
    · unfold heapAt
      rw [List.getElem?_eq_none (by omega)]
      exact gS3 c hc
    · obtain ⟨q, _, g2, g3, _⟩ := pIns k hk hki
      have hqs : q < esS.length := by omega
      unfold heapAt
      rw [g2, List.getElem?_append_right (by omega), l1, Nat.add_sub_cancel_left, List.getElem?_append_left hqs, List.getElem?_eq_getElem hqs]
      exact gS6 _ (List.getElem_mem hqs) c hc
  have C : Cert P nt ops (fun _ => call) (es1 ++ (esS ++ es3')) r h rr HS (levelStarts P poss2 0 ops.toList) (pre ++ (σ ++ post)) poss2 ops.size ops.size true := by
    refine ⟨z1, Nat.le_refl _, Nat.le_refl _, posLt2, ordAt2, z2, z3, ?_, ?_, ?_, ?_, ?_, ?_, fun h => absurd h (Nat.lt_irrefl _), fun h => absurd h (Nat.lt_irrefl _)⟩
    · intro i o ho _
      exact z4 _ o (opsAt_get (posLt2 i (Array.getElem?_eq_some_iff.1 ho).1).2 ho)
    · intro i o hio
      obtain ⟨mi, f1, f2, f3, _⟩ := fine i o hio
      refine ⟨mi, f1, f2, fun _ k ok hok _ => ?_⟩
      obtain ⟨mk, f4, f5⟩ := f3 k ok hok
      have hi : i < ops.size := (Array.getElem?_eq_some_iff.1 hio).1
      have hk : k < ops.size := (Array.getElem?_eq_some_iff.1 hok).1
      refine ⟨mk, f4, ?_, fun he hch hlt => ?_⟩
      · by_cases hki : k ∈ ins
        · unfold pairFine
          rw [(insDst k ok hki hok).1]
          simp
        · have hb : Nat.blt (posOf poss2 k) (posOf poss2 i) = Nat.blt (posOf poss k) (posOf poss i) := by
            rw [Bool.eq_iff_iff, Nat.blt_eq, Nat.blt_eq]
            rcases cls k hk with hc | hc | hc
            · obtain ⟨a1, a2⟩ := pPre k hk hc
              rcases cls i hi with hd | hd | hd
              · obtain ⟨b1, b2⟩ := pPre i hi hd; omega
              · obtain ⟨q, _, b2, b3, b4, b5⟩ := pIns i hi hd; omega
              · obtain ⟨b1, b2⟩ := pPost i hi hd; omega
            · exact absurd hc hki
            · obtain ⟨a1, a2⟩ := pPost k hk hc
              rcases cls i hi with hd | hd | hd
              · obtain ⟨b1, b2⟩ := pPre i hi hd; omega
              · obtain ⟨q, _, b2, b3, b4, b5⟩ := pIns i hi hd; omega
              · obtain ⟨b1, b2⟩ := pPost i hi hd; omega
          rw [hb]
          exact f5
      · have hki := chainIns k ok hok hch
        obtain ⟨qk, _, b2, b3, b4, b5⟩ := pIns k hk hki
        rcases cls i hi with hd | hd | hd
        · obtain ⟨a1, a2⟩ := pPre i hi hd; omega
        · exact .inr ⟨rfl, (insDst i o hd hio).2, (insDst k ok hki hok).2⟩
        · rw [(postF i o hd hio).1] at he; cases he
    · have := levelStarts_end (P := P) (poss := poss2) (l := ops.toList) (i := 0)
      simpa using this
    · intro j o g1 g2
      have := levelStarts_mem (P := P) (poss := poss2) (i := 0) (j := j) (l := ops.toList) (o := o) (by simpa using g1) g2
      simpa using this
    · intro st hst
      rcases levelStarts_spec hst with h | ⟨j, o, g1, g2, g3⟩
      · exact .inl (.inl (by simpa using h))
      · exact .inr ⟨j, o, by simpa using g1, g2, by simpa using g3⟩
    · intro j o hjo hl he _
      have hj : j < ops.size := (Array.getElem?_eq_some_iff.1 hjo).1
      have hjp : j ∈ pre := by
        rcases cls j hj with hd | hd | hd
        · exact hd
        · obtain ⟨o', A', g1, g2, _⟩ := insF j hd
          rw [hjo] at g1; cases g1
          rw [(isIns_of (P := P) g2).2.1] at he; cases he
        · rw [(postF j o hd hjo).2] at hl; cases hl
      obtain ⟨t', x', hop⟩ := (preF j o hjp hjo).2.2 hl he
      obtain ⟨q, hq⟩ := List.mem_iff_getElem?.1 hjp
      obtain ⟨a1, _, a3⟩ := atPre q j hq
      obtain ⟨e, c, off, h', y1, y2, y3, y4, y5⟩ := loadsFine_get hlo q j o t' x' hq hjo hop
      have hee : (es1 ++ (esS ++ es3'))[posOf poss2 j]? = some e := by
        rw [(pPre j hj hjp).1, a1, List.getElem?_append_left (by omega)]
        rw [Nat.zero_add, hes, List.getElem?_append_left (by omega)] at y1
        exact y1
      refine ⟨e, hee, fun st hst _ => ⟨call, _, ⟨hcall, hbody⟩, dop_load hop y4 y5 y2 _ (away st ?_ c fun h => y3 h.symm)⟩⟩
      rcases levelStarts_spec hst with h | ⟨k', o', g1, g2, g3⟩
      · exact .inl (by simpa using h)
      · have hok' : ops[k']? = some o' := by simpa using g1
        exact .inr ⟨k', (Array.getElem?_eq_some_iff.1 hok').1, chainIns k' o' hok' g2, by simpa using g3⟩
  have hdf : ∀ (E' : Env) (a' : Act), E.le E' → a'.defers = a.defers → ∀ (r' : Regs), T.get .bad dslot r' = T.get .bad dslot r → DRel E' (T.get .bad dslot r') a'.defers := fun E' a' he hd r' hr' => by rw [hr', hd]; exact k.defers.mono he
  have hdsl : T.get .bad dslot rr = T.get .bad dslot r := by
    have := C.dsl ops.size (Nat.le_refl _)
    have hnn : (es1 ++ (esS ++ es3'))[ops.size]? = none := List.getElem?_eq_none (by omega)
    unfold regAt at this
    rw [hnn] at this
    exact this
  have hheld : Holds w0 w0 (es1 ++ (esS ++ es3')) HS poss2 (Held ops (es1 ++ (esS ++ es3')) HS poss2 (Array.replicate ops.size false) 0) :=
    ⟨rfl, fun _ _ => rfl, fun k hk => (by obtain ⟨_, _, _, _, h0⟩ := hk; omega), fun k k' hk => (by obtain ⟨_, _, _, _, h0⟩ := hk; omega)⟩
  obtain ⟨s', F', g1, g2, g3, g4, g5, g6⟩ := C.advance ops.size 0 (by omega) (fun k o _ _ _ => hnone k) w0 hheld (E := E) (w := { w with drawn := w.drawn }) (by rw [C.h0]; exact s.same rfl rfl rfl rfl)
  rw [← hS0]
  refine lit_go (w0 := w0) hN (fun _ => hcall) (fun _ => hbody) C (E0 := E) (D := a.defers) (S0 := S0) (fun E' a' w' q1 q2 q3 q4 => ?_) (fun i k hi hk hlt a' b' hab => ?_) ops.size t _ [] a _ (by rw [hS0]; rfl) (fun k _ => ⟨fun h => absurd h (hnone k), fun h => by simp at h⟩) (Nat.le_trans List.countP_le_length (by simp)) ?_
  · refine hp E' a' w' q1 ⟨q2, hdf E' a' q1 q3 rr hdsl⟩ ?_
    have hrel := evC_sound q2 A.m
    rw [hmv] at hrel
    simp only [Rel] at hrel
    obtain ⟨p, hEp, _⟩ := hrel
    rw [gI4, ← gS4]
    refine q4.forget gS2 hEp ?_
    rw [List.nil_append, map_of_ents0 (insEnts_all hms), map_of_ents (fun i m h => entPair_of h) gS5]
    exact hpermσ.symm.map _
  · have hi2 : i < ops.size := by
      unfold isInsAt at hi
      cases ho : ops[i]? with
      | none => rw [ho] at hi; cases hi
      | some o => exact (Array.getElem?_eq_some_iff.1 ho).1
    have hk2 : k < ops.size := by
      unfold isInsAt at hk
      cases ho : ops[k]? with
      | none => rw [ho] at hk; cases hk
      | some o => exact (Array.getElem?_eq_some_iff.1 ho).1
    have hki := (insAt k hk2).1 hk
    have hσe : σ = a'.filter (isInsAt ops) ++ i :: b'.filter (isInsAt ops) := by rw [← hσ, hab, List.filter_append, List.filter_cons_of_pos hi]
    have hpi : posOf poss2 i = n0 + (a'.filter (isInsAt ops)).length := by
      rw [hpos2 i hi2, (at3 i (a'.filter (isInsAt ops)).length).2.1 (by rw [hσe, List.getElem?_append_right (Nat.le_refl _), Nat.sub_self]; rfl), hprel]
    obtain ⟨q, hq, hpk, _⟩ := pIns k hk2 hki
    have hql : q < (a'.filter (isInsAt ops)).length := by omega
    rw [hσe, List.getElem?_append_left hql] at hq
    exact (List.mem_filter.1 (List.mem_of_getElem? hq)).1
  · refine ⟨by simp, k.size, rfl, fun k' hk => absurd hk (hnone k'), fun k' o e hk => absurd hk (hnone k'), E, s', F', Env.le.refl E, g1, g3, fun k' o h1 h2 => ⟨fun h => absurd h (hnone k'), fun h => by have := g4 k' o h1 h2 (Nat.zero_le _); omega⟩,
      fun k' o _ _ h => absurd h (hnone k'), g5, ?_, fun t ht => .inr ⟨fun k' o hk => absurd hk (hnone k'), k.reg t ht⟩⟩
    exact g6.same rfl rfl rfl rfl
theorem drawC_sound {rd : Option Nat} {w0 : Fr} {E : Env} {h : Heap} {w : World} {id : Nat} (hM : P.follows .mixedOrders = true) (hN : NamesOk P) (hcall : CallOk P call) (hbody : CallBody P call) {r : Regs} {a : Act}
    {Q : Exit → Act → World → Prop} (hp : PostR w0 E nt (Q .normal) Q ((drawC P nt ops).run call r h)) (k : RegRel E nt r a) (s : Sim w0 E h w) : (Code.region id ops true).wpIn (Wd rd) 0 P Q a w := by
  unfold drawC at hp
  generalize orderOf P ops = order at hp
  generalize possFrom order 0 ops.toList = poss at hp
  unfold drawPos at hp
  cases hf : (permOk ops.size order poss && drawFine P ops poss) with
  | false =>
    rw [hf] at hp
    simp only [cond_false] at hp
    cases hf2 : (permOk ops.size order poss && tailFine P ops order poss) with
    | false =>
      rw [hf2] at hp
      simp only [cond_false] at hp
      cases hf3 : permOk ops.size order poss with
      | false => rw [hf3] at hp; exact hp.elim
      | true =>
        rw [hf3] at hp
        simp only [cond_true] at hp
        exact lit_sound hM hN hcall hbody hf3 hp k s
    | true =>
      rw [hf2] at hp
      simp only [cond_true] at hp
      simp only [Bool.and_eq_true] at hf2
      exact drawT_sound hM hN hcall hbody hf2.1 hf2.2 hp k s
  | true =>
    rw [hf] at hp
    simp only [cond_true] at hp
    simp only [Bool.and_eq_true] at hf
    obtain ⟨hperm, hfine⟩ := hf
    unfold permOk at hperm
    simp only [Bool.and_eq_true, Nat.beq_eq] at hperm
    obtain ⟨ho1, ho2, ho3, ho4⟩ := hperm
    have posLt : ∀ k, k < ops.size → posOf poss k < ops.size ∧ order[posOf poss k]? = some k := by
      intro k hk
      have hg : poss[k]? = some (posOf poss k) := by
        unfold posOf
        rw [List.getElem?_eq_getElem (by omega)]
        rfl
      have := permAt_get ho3 hg
      rw [Nat.zero_add] at this
      exact ⟨by have := (List.getElem?_eq_some_iff.1 this).1; omega, this⟩
    have ordAt : ∀ p, p < ops.size → ∃ i, i < ops.size ∧ posOf poss i = p := by
      intro p hp
      have hg : order[p]? = some (order[p]'(by omega)) := List.getElem?_eq_getElem (by omega)
      have := permAt_get ho4 hg
      rw [Nat.zero_add] at this
      refine ⟨order[p]'(by omega), by have := (List.getElem?_eq_some_iff.1 this).1; omega, ?_⟩
      unfold posOf
      rw [this]
      rfl
    -- from what is known to the region
    have starts_mem : ∀ j o, ops[j]? = some o → isChain P o = true → posOf poss j ∈ levelStarts P poss 0 ops.toList := fun j o h1 h2 => by simpa using levelStarts_mem (poss := poss) (i := 0) (j := j) (l := ops.toList) (by simpa using h1) h2
    have starts_end : ops.size ∈ levelStarts P poss 0 ops.toList := by simpa using levelStarts_end (P := P) (poss := poss) (l := ops.toList) (i := 0)
    have starts_sts : ∀ N M, ∀ s ∈ levelStarts P poss 0 ops.toList, (s = ops.size ∨ (s = N ∧ M = N)) ∨ ∃ k o, ops[k]? = some o ∧ isChain P o = true ∧ s = posOf poss k := fun N M s hs => by
      rcases levelStarts_spec hs with h | ⟨j, o, h1, h2, h3⟩
      · exact .inl (.inl (by simpa using h))
      · exact .inr ⟨j, o, by simpa using h1, h2, by simpa using h3⟩
    have hfineAll : ∀ i o, ops[i]? = some o → ∃ mi, (masksFrom [] ops.toList)[i]? = some mi ∧ onFine i o = true ∧ (posOf poss i < ops.size →
        ∀ k ok, ops[k]? = some ok → posOf poss k < ops.size → ∃ mk, (masksFrom [] ops.toList)[k]? = some mk ∧ pairFine i mi (readsOf ops o) o.dst k mk ok (Nat.blt (posOf poss k) (posOf poss i)) = true ∧ (isEff P o.op = true → isChain P ok = true → posOf poss k < posOf poss i → bitB mi k = true ∨ (false = true ∧ isIns o = true ∧ isIns ok = true))) := by
      intro i o hi
      obtain ⟨mi, g1, g2, g3⟩ := drawFine_spec hfine i o hi
      exact ⟨mi, g1, g2, fun _ k ok hk _ => by
        obtain ⟨mk, y1, y2, y3⟩ := g3 k ok hk
        exact ⟨mk, y1, y2, fun a b c => .inl (y3 a b c)⟩⟩
    have main : ∀ (q : AskC),
        (∀ es hf' N, es.length = N → N ≤ ops.size → (∀ i o, ops[i]? = some o → posOf poss i < N → ∃ e, es[posOf poss i]? = some e ∧ (dopC P nt ops o).run call e.r e.h = .val e.v (heapAt es hf' (posOf poss i + 1))) →
          (N < ops.size → ∃ i0 o0, ops[i0]? = some o0 ∧ posOf poss i0 = N ∧ isChain P o0 = true) → q.run call es hf' = true → ∀ j o, ops[j]? = some o → looks o.op = true → isEff P o.op = false → posOf poss j < N → ∃ e, es[posOf poss j]? = some e ∧ ∀ s ∈ levelStarts P poss 0 ops.toList,
          mayStand P (masksFrom [] ops.toList) ops.toList poss j (((masksFrom [] ops.toList)[j]?).getD 0) s = true → ∃ h', (dopC P nt ops o).run call e.r (heapAt es hf' s) = .val e.v h') →
        PostR w0 E nt (Q .normal) Q (drawRun ops order poss (stepsD P nt ops (opsAt ops order)) q call r h) → (Code.region id ops true).wpIn (Wd rd) 0 P Q a w := by
      intro q hask hrun
      unfold drawRun at hrun
      cases hst : (stepsD P nt ops (opsAt ops order)).run call r h with
      | fail => rw [hst] at hrun; exact hrun.elim
      | ok es rr hh =>
        rw [hst] at hrun
        simp only at hrun
        cases hq : q.run call es hh with
        | false => rw [hq] at hrun; exact hrun.elim
        | true =>
          rw [hq] at hrun
          simp only [cond_true] at hrun
          obtain ⟨q1, q2, q3, q4⟩ := stepsD_spec hst
          have hlen : es.length = ops.size := by rw [q1, opsAt_length, ho1]
          have hstep : ∀ i o, ops[i]? = some o → posOf poss i < ops.size → ∃ e, es[posOf poss i]? = some e ∧ (dopC P nt ops o).run call e.r e.h = .val e.v (heapAt es hh (posOf poss i + 1)) ∧ regAt es rr (posOf poss i + 1) = (putC o.dst).run e.r e.v :=
            fun i o ho _ => q4 _ o (opsAt_get (posLt i (Array.getElem?_eq_some_iff.1 ho).1).2 ho)
          have C : Cert P nt ops (fun _ => call) es r h rr hh (levelStarts P poss 0 ops.toList) order poss ops.size ops.size false :=
            ⟨hlen, Nat.le_refl _, Nat.le_refl _, posLt, ordAt, q2, q3, hstep, hfineAll, starts_end, starts_mem, starts_sts _ _,
              fun j o h1 h2 h3 h4 => by
                obtain ⟨e, g1, g2⟩ := hask es hh _ hlen (Nat.le_refl _) (fun i o ho hi => by obtain ⟨e, z1, z2, _⟩ := hstep i o ho hi; exact ⟨e, z1, z2⟩) (fun h => by omega) hq j o h1 h2 h3 h4
                exact ⟨e, g1, fun s hs hm => by obtain ⟨h', g3⟩ := g2 s hs hm; exact ⟨_, h', ⟨hcall, hbody⟩, g3⟩⟩,
              fun h => absurd h (Nat.lt_irrefl _), fun h => absurd h (Nat.lt_irrefl _)⟩
          exact draw_fin hM hN hcall hbody k s C (fun _ => hrun) (fun _ _ _ _ _ _ _ h => absurd h (Nat.lt_irrefl _)) (fun h => absurd h (Nat.lt_irrefl _))
      | pan es rr hh v h' =>
        rw [hst] at hrun
        simp only at hrun
        cases hq : (panFine ops order poss es.length && q.run call es hh) with
        | false => rw [hq] at hrun; exact hrun.elim
        | true =>
          rw [hq] at hrun
          simp only [cond_true] at hrun
          simp only [Bool.and_eq_true] at hq
          obtain ⟨hpf, hq⟩ := hq
          obtain ⟨q2, q3, q4, o0, q5, q6, q7⟩ := stepsD_pan hst
          have hlt : es.length < ops.size := by
            have := (List.getElem?_eq_some_iff.1 q5).1
            rw [opsAt_length, ho1] at this
            exact this
          obtain ⟨i0, hi0, hpi⟩ := ordAt es.length hlt
          have hio : ops[i0]? = some ops[i0] := Array.getElem?_eq_getElem hi0
          have hord := (posLt i0 hi0).2
          rw [hpi] at hord
          have ho0 : o0 = ops[i0] := by
            have := opsAt_get hord hio
            rw [q5] at this
            cases this
            rfl
          subst ho0
          unfold panFine at hpf
          rw [hord] at hpf
          simp only at hpf
          obtain ⟨m0, hm0, _⟩ := zipAll_get hpf i0 ops[i0] (by simp)
          have hzip : ∀ k ok, ops[k]? = some ok → ∃ mk, (masksFrom [] ops.toList)[k]? = some mk ∧ (es.length < posOf poss k → bitB mk i0 = true) ∧ (isAlloc ok = true → posOf poss k < es.length → bitB m0 k = true) := by
            intro k ok hk
            obtain ⟨mk, z1, z2⟩ := zipAll_get hpf k ok (by simpa using hk)
            simp only [Nat.zero_add, Bool.and_eq_true] at z2
            refine ⟨mk, z1, fun hg => ?_, fun ha hl => ?_⟩
            · have := z2.1
              rw [show Nat.blt es.length (posOf poss k) = true from by rw [Nat.blt_eq]; exact hg] at this
              exact this
            · have := z2.2
              rw [ha, show Nat.blt (posOf poss k) es.length = true from by rw [Nat.blt_eq]; exact hl, hm0] at this
              exact this
          have hchain : isChain P ops[i0] = true := by
            obtain ⟨c1, c2⟩ := mayPan_chain (P := P) q6
            unfold isChain; rw [c1, c2]; rfl
          have hstep : ∀ i o, ops[i]? = some o → posOf poss i < es.length → ∃ e, es[posOf poss i]? = some e ∧ (dopC P nt ops o).run call e.r e.h = .val e.v (heapAt es hh (posOf poss i + 1)) ∧ regAt es rr (posOf poss i + 1) = (putC o.dst).run e.r e.v :=
            fun i o ho hl => q4 _ o hl (opsAt_get (posLt i (Array.getElem?_eq_some_iff.1 ho).1).2 ho)
          have C : Cert P nt ops (fun _ => call) es r h rr hh (levelStarts P poss 0 ops.toList) order poss es.length ops.size false :=
            ⟨rfl, Nat.le_of_lt hlt, Nat.le_of_lt hlt, posLt, ordAt, q2, q3, hstep, hfineAll, by rw [← hpi]; exact starts_mem i0 _ hio hchain, starts_mem, starts_sts _ _,
              fun j o h1 h2 h3 h4 => by
                obtain ⟨e, g1, g2⟩ := hask es hh _ rfl (Nat.le_of_lt hlt) (fun i o ho hi => by obtain ⟨e, z1, z2, _⟩ := hstep i o ho hi; exact ⟨e, z1, z2⟩) (fun _ => ⟨i0, _, hio, hpi, hchain⟩) hq j o h1 h2 h3 h4
                exact ⟨e, g1, fun s hs hm => by obtain ⟨h', g3⟩ := g2 s hs hm; exact ⟨_, h', ⟨hcall, hbody⟩, g3⟩⟩,
              fun h => absurd h (Nat.lt_irrefl _), fun _ _ => ⟨i0, _, m0, hio, hpi, q6, hm0, fun k ok mk hk hg hmk => by
                obtain ⟨mk', z1, z2, _⟩ := hzip k ok hk
                rw [hmk] at z1; cases z1
                exact z2 hg, fun k ok hk ha hl => by
                obtain ⟨mk', z1, _, z3⟩ := hzip k ok hk
                exact z3 ha hl, v, h', q7⟩⟩
          refine draw_fin hM hN hcall hbody k s C (fun h => absurd h (by omega)) (fun E' a' w' x v1 h1 g1 _ _ g3 g4 g5 g6 => ?_) (fun h => absurd h (Nat.lt_irrefl _))
          obtain ⟨i1, o1, z1, z2, z3⟩ := g3
          have : i1 = i0 := C.posInj (Array.getElem?_eq_some_iff.1 z1).1 hi0 (by rw [z2, hpi])
          subst this
          rw [hio] at z1; cases z1
          rw [q7] at z3; cases z3
          exact hrun E' a' w' x g1 g4 g5 g6
    cases hl : anyEff P ops.toList with
    | false =>
      rw [hl] at hp
      have none : ∀ (l : List Oper), anyEff P l = false → ∀ (j : Nat) (o : Oper), l[j]? = some o → isEff P o.op = false := by
        intro l
        induction l with
        | nil => intro _ j o h; simp at h
        | cons x l ih =>
          intro h j o ho
          simp only [anyEff, Bool.or_eq_false_iff] at h
          cases j with
          | zero => simp only [List.getElem?_cons_zero, Option.some.injEq] at ho; subst ho; exact h.1
          | succ j => exact ih h.2 j o (by simpa using ho)
      refine main _ (fun es hf' N hlen hle hstep hstop _ j o ho hlo hq hjN => ?_) hp
      have hNs : N = ops.size := by
        rcases Nat.lt_or_ge N ops.size with hlt | hge
        · obtain ⟨i0, o0, z1, z2, z3⟩ := hstop hlt
          have := none _ hl i0 o0 (by simpa using z1)
          unfold isChain at z3
          rw [this] at z3; cases z3
        · omega
      obtain ⟨e, p1, p2⟩ := hstep j o ho hjN
      refine ⟨e, p1, fun s hs _ => ?_⟩
      have hs' : s = ops.size := by
        rcases levelStarts_spec hs with h | ⟨j', o', h1, h2, h3⟩
        · simpa using h
        · have := none _ hl j' o' h1
          unfold isChain at h2
          rw [this] at h2
          cases h2
      have flat : ∀ d, d ≤ ops.size → heapAt es hf' d = heapAt es hf' 0 := by
        intro d
        induction d with
        | zero => intro _; rfl
        | succ d ih =>
          intro hd
          obtain ⟨i, hi1, hi2⟩ := ordAt d (by omega)
          have hio : ops[i]? = some ops[i] := Array.getElem?_eq_getElem hi1
          obtain ⟨ed, w1, w2⟩ := hstep i ops[i] hio (by omega)
          rw [hi2] at w1 w2
          have hne : isEff P ops[i].op = false := none _ hl i _ (by simp)
          rw [(dop_quiet hne w2).1, ← ih (by omega)]
          simp [heapAt, w1]
      have : e.h = heapAt es hf' s := by rw [hs', flat ops.size (Nat.le_refl _), ← flat (posOf poss j) (by omega)]; simp [heapAt, p1]
      rw [← this]
      exact ⟨_, p2⟩
    | true =>
      rw [hl] at hp
      refine main _ (fun es hf' N hlen hle hstep hstop hqq j o ho hlo hq hjN => ?_) hp
      obtain ⟨e, p1, _⟩ := hstep j o ho hjN
      have := asksC_spec hqq j o (by simpa using ho) hlo hq e (by simpa using p1)
      exact ⟨e, p1, by simpa using this⟩
end
end Go.Proofs.YtpfmfpakbfkfoaaGreatDoor.Am

namespace Go.Proofs.YtpfmfpakbfkfoaaGreatDoor.Am
variable [Lay]
set_option linter.unusedSectionVars false
set_option linter.unusedVariables false
open Go Go.RowKit

def toExit : Ex → Exit
  | .normal => .normal
  | .exit id => .exit id
  | .ret => .ret

/-- what is known of the functions that are taken by what is known of them -/
def PrimOk0 (C : Ctx) : Prop :=
  ∀ f p args h v h', C.prim f = some p → p.run args h = .val v h' → (∃ fn, C.P.funcs[f]? = some fn ∧ fn.body.isSome = true) ∧ ∀ (w0 : Fr) E w xs, RelL E args xs → Sim w0 E h w →
    Calls C.P f xs.toArray w fun e w' => ∃ E' x, e = .returned x ∧ E.le E' ∧ Rel E' v x ∧ Sim w0 E' h' w'

/-- the library's functions without a body -/
def ExtOk (C : Ctx) : Prop :=
  ∀ f p args h v h', C.ext f = some p → p.run args h = .val v h' → ∀ (w0 : Fr) E w xs, RelL E args xs → Sim w0 E h w →
    ∃ E' x w', (callFunc f xs.toArray).run C.P w = .ok (.value x) w' ∧ E.le E' ∧ Rel E' v x ∧ Sim w0 E' h' w'

def PrimOk (C : Ctx) : Prop := PrimOk0 C ∧ ExtOk C

theorem fenced_wd {P : Program} {rd : Option Nat} (m : Machine) : m.fenced P (Wd rd) := fenced_wide P m

/-- a code's weakest precondition; a loop's from where a round begins -/
def wpX (rd : Option Nat) (P : Program) (c : Code) (Q : Exit → Act → World → Prop) (a : Act) (w : World) : Prop :=
  match c with
  | .loop x => ∀ (b : Frame) (k : List Item) (cs : List Frame), b.roundOf = rd → ∃ e a' w', Q e a' w' ∧ ArrivesIn (Machine.fenced P (Wd rd)) P (lone (b.atR a (.code x :: .inLoop x :: k)) cs w) b k cs e a' w'
  | c => c.wpIn (Wd rd) 0 P Q a w

theorem wpX.wp {rd : Option Nat} {P : Program} {c : Code} {Q : Exit → Act → World → Prop} {a : Act} {w : World} (h : wpX rd P c Q a w) : c.wpIn (Wd rd) 0 P Q a w := by
  cases c with
  | loop x =>
    intro b k cs hro _ _
    obtain ⟨e, a', w', q, r⟩ := h b k cs hro
    exact ⟨e, a', w', q, .of_steps (.one (fenced_wd _) stepR_loop) r⟩
  | _ => exact h

/-- what a code's run tells -/
def PostC (w0 : Fr) (E : Env) (nt : Nat) (Q : Exit → Act → World → Prop) : CR → Prop
  | .ok e r h => ∀ E' a' w', E.le E' → RegRel E' nt r a' → Sim w0 E' h w' → Q (toExit e) a' w'
  | .pan v r h => ∀ E' a' w' x, E.le E' → RegRel E' nt r a' → Rel E' v x → Sim w0 E' h w' → Q (.panic (panic1 x)) a' w'
  | .fail => False

theorem PostC.up {w0 : Fr} {E E' : Env} (h : E.le E') {nt : Nat} {Q : Exit → Act → World → Prop} {x : CR} (k : PostC w0 E nt Q x) : PostC w0 E' nt Q x := by
  cases x with
  | ok e r hh => exact fun E2 a w h2 => k E2 a w (h.trans h2)
  | pan v r hh => exact fun E2 a w x h2 => k E2 a w x (h.trans h2)
  | fail => exact k

def CodeOk (P : Program) (nt : Nat) (c : Code) (run : Regs → Heap → CR) : Prop :=
  ∀ (rd : Option Nat) (w0 : Fr) r h, (rd = none ∨ noMark c = true) → ∀ E a w, RegRel E nt r a → Sim w0 E h w → ∀ Q : Exit → Act → World → Prop, PostC w0 E nt Q (run r h) → wpX rd P c Q a w

def ExecOk (P : Program) (ex : ExecF) : Prop := ∀ nt c, CodeOk P nt c (ex nt c)

def resOne (tmps : Array Value) : ResultVar → Sem Value
  | .tmp t => pure (tmps.getD t undef)
  | .cell b t => do loadVar t (← asAddr (tmps.getD b undef))

theorem resC_sound {P : Program} {w0 : Fr} {E : Env} {nt : Nat} {r : Regs} {h : Heap} {a : Act} {w : World} (k : RegRel0 E nt r a) (s : Sim w0 E h w) : ∀ {l : List ResultVar} {vs : List V}, (resC P nt l).run r h = some vs →
    ∃ xs, RelL E vs xs ∧ (l.mapM (resOne a.tmps)).run P w = .ok xs w
  | [], vs, he => by
    simp only [resC, Option.some.injEq] at he
    subst he
    exact ⟨[], rfl, rfl⟩
  | .tmp t :: l, vs, he => by
    simp only [resC] at he
    cases hc : (Nat.ble t top && Nat.blt t nt) with
    | false => rw [hc] at he; cases he
    | true =>
      rw [hc] at he
      simp only [cond_true] at he
      simp only [Bool.and_eq_true, Nat.ble_eq] at hc
      cases hr : (resC P nt l).run r h with
      | none => rw [hr] at he; cases he
      | some us =>
        rw [hr] at he
        simp only [Option.some.injEq] at he
        subst he
        obtain ⟨xs, h1, h2⟩ := resC_sound k s hr
        refine ⟨_ :: xs, by simp only [RelL]; exact ⟨_, _, rfl, k.reg t hc.1, h1⟩, ?_⟩
        rw [List.mapM_cons, Sem.run_bind]
        simp only [resOne, Sem.run_pure, Result.andThen_ok, Sem.run_bind, h2]
  | .cell b t :: l, vs, he => by
    simp only [resC] at he
    cases hc : (Nat.ble b top && Nat.blt b nt) with
    | false => rw [hc] at he; cases he
    | true =>
      rw [hc] at he
      simp only [cond_true] at he
      simp only [Bool.and_eq_true, Nat.ble_eq] at hc
      cases hv : (loadC P t).run h (T.get .bad (pa b) r) with
      | none => rw [hv] at he; cases he
      | some v =>
        rw [hv] at he
        simp only at he
        cases hr : (resC P nt l).run r h with
        | none => rw [hr] at he; cases he
        | some us =>
          rw [hr] at he
          simp only [Option.some.injEq] at he
          subst he
          obtain ⟨xs, h1, h2⟩ := resC_sound k s hr
          obtain ⟨Y, _, hR, A, hA, hY⟩ := loadC_sound (P := P) s (k.reg b hc.1) hv
          refine ⟨Y :: xs, by simp only [RelL]; exact ⟨_, _, rfl, hR, h1⟩, ?_⟩
          rw [List.mapM_cons, Sem.run_bind]
          simp only [resOne, hA, asAddr, Sem.run_bind, Sem.run_pure, Result.andThen_ok, hY, h2]

theorem argRegs_get : ∀ (args : List V) (i : Nat) (t : Regs) (j : Nat), i + args.length ≤ top + 1 → j ≤ top →
    T.get .bad (pa j) (argRegs i args t) = if i ≤ j ∧ j < i + args.length then (args[j - i]?).getD .bad else T.get .bad (pa j) t
  | [], i, t, j, _, _ => by
    have : ¬ (i ≤ j ∧ j < i) := by omega
    simp [argRegs, this]
  | v :: vs, i, t, j, h, hj => by
    simp only [List.length_cons] at h ⊢
    rw [argRegs, argRegs_get vs _ _ _ (by omega) hj]
    by_cases h1 : i + 1 ≤ j ∧ j < i + 1 + vs.length
    · rw [if_pos h1, if_pos (by omega)]
      have : j - i = (j - (i + 1)) + 1 := by omega
      rw [this, List.getElem?_cons_succ]
    · rw [if_neg h1, T.get_put]
      by_cases h2 : j = i
      · subst h2; rw [if_pos rfl, if_pos (by omega)]; simp
      · rw [if_neg (fun e => h2 (pa_inj e).symm), if_neg (by omega)]

theorem oneOf_rel {E : Env} {vs : List V} {xs : List Value} (h : RelL E vs xs) (fn : Func) (a : Act) (P : Program) (w : World)
    (hr : (fn.results.toList.mapM (resOne a.tmps)).run P w = .ok xs w) : ∃ x, (results fn a.tmps).run P w = .ok x w ∧ Rel E (oneOf vs) x := by
  have hmap : (fn.results.mapM (resOne a.tmps)).run P w = .ok xs.toArray w := by
    rw [Array.mapM_eq_mapM_toList, Sem.run_map, hr]
    rfl
  have hdef : results fn a.tmps = (do
      let vs ← fn.results.mapM (resOne a.tmps)
      pure (if h : vs.size = 1 then vs[0] else .tuple vs)) := by
    unfold results
    have : (fun x => match x with
      | ResultVar.tmp t => (pure (a.tmps.getD t undef) : Sem Value)
      | ResultVar.cell b t => do loadVar t (← asAddr (a.tmps.getD b undef))) = resOne a.tmps := by
      funext x
      cases x <;> rfl
    rw [← this]
    rfl
  have hres : (results fn a.tmps).run P w = .ok (if h : xs.toArray.size = 1 then xs.toArray[0] else .tuple xs.toArray) w := by
    rw [hdef, Sem.run_bind, hmap]
    rfl
  refine ⟨_, hres, ?_⟩
  match vs, h with
  | [], h =>
    simp only [RelL] at h
    subst h
    simp only [oneOf, Rel]
    exact ⟨#[], rfl, rfl⟩
  | [v], h =>
    simp only [RelL] at h
    obtain ⟨y, ys, rfl, hy, rfl⟩ := h
    simpa [oneOf] using hy
  | v :: u :: vs, h =>
    have hl := h.length
    have hne : ¬ xs.toArray.size = 1 := by simp at hl ⊢; omega
    rw [dif_neg hne]
    simp only [oneOf, Rel]
    exact ⟨_, rfl, by simpa using h⟩

section
variable {C : Ctx}

theorem argRegs_dslot : ∀ (args : List V) (i : Nat) (t : Regs), i + args.length ≤ top + 1 → T.get .bad dslot (argRegs i args t) = T.get .bad dslot t
  | [], _, _, _ => rfl
  | v :: vs, i, t, h => by
    simp only [List.length_cons] at h
    simp only [argRegs]
    rw [argRegs_dslot vs (i + 1) _ (by omega), T.get_put, if_neg (pa_dslot (by omega))]

theorem entry_rel {E : Env} {nt : Nat} {args : List V} {xs : List Value} (hl : RelL E args xs) (hal : args.length ≤ nt) (hnt : nt ≤ top) :
    RegRel E nt (argRegs 0 args .e) { tmps := xs.toArray ++ Array.replicate (nt - xs.toArray.size) undef, defers := [] } := by
  have hlen := hl.length
  refine ⟨⟨by simp; omega, fun t ht => ?_⟩, ?_⟩
  · rw [argRegs_get _ _ _ _ (by omega) ht]
    by_cases hlt : t < args.length
    · rw [if_pos (by omega), Nat.sub_zero, List.getElem?_eq_getElem hlt]
      obtain ⟨y, hy, hR⟩ := hl.get t args[t] (List.getElem?_eq_getElem hlt)
      simp only [Option.getD_some]
      have : (xs.toArray ++ Array.replicate (nt - xs.toArray.size) undef).getD t undef = y := by
        rw [Array.getD_eq_getD_getElem?, Array.getElem?_append_left (by simp; omega)]
        simp [hy]
      rw [this]; exact hR
    · rw [if_neg (by omega)]
      simp [Rel]
  · rw [argRegs_dslot _ _ _ (by omega)]
    simp [DRel]

/-- how a frame is on its way out -/
def UMode (E : Env) (u : Option V) (m : FrameMode) : Prop :=
  match u with
  | none => m = .returning
  | some v => ∃ x, Rel E v x ∧ m = .panicking (panic1 x)

theorem UMode.mono {E E' : Env} (h : E.le E') {u : Option V} {m : FrameMode} (k : UMode E u m) : UMode E' u m := by
  cases u with
  | none => exact k
  | some v => obtain ⟨x, h1, h2⟩ := k; exact ⟨x, Rel.mono h _ _ h1, h2⟩

theorem UMode.settle {E : Env} {u : Option V} {m : FrameMode} (k : UMode E u m) : settle m = m := by
  cases u with
  | none => simp only [UMode] at k; subst k; rfl
  | some v => obtain ⟨x, h1, rfl⟩ := k; rfl

theorem UMode.run {E : Env} {u : Option V} {m : FrameMode} (k : UMode E u m) : m ≠ .run := by
  cases u with
  | none => simp only [UMode] at k; subst k; simp
  | some v => obtain ⟨x, h1, rfl⟩ := k; simp

/-- what a deferred call's run tells -/
def DefOk (P : Program) (df : DefF) : Prop :=
  ∀ f args u h u' h', df f args u h = .go u' h' → (∃ fn, P.funcs[f]? = some fn ∧ fn.body.isSome = true) ∧
    ∀ (w0 : Fr) E w xs m, RelL E args xs → UMode E u m → Sim w0 E h w → CallsDIn (Wd none) 0 P f xs.toArray m w fun e m' w' => ∃ E' x, e = .returned x ∧ E.le E' ∧ UMode E' u' (settle m') ∧ Sim w0 E' h' w'

theorem Sim.gone {w0 : Fr} {E : Env} {h : Heap} {w w' : World} (s : Sim w0 E h w) {b : Pa} {p : Pl} (hown : (h.get b).own = true) (hp : E b = some p) (hB : w0.w.heap.size ≤ p.blk)
    (hlt : w.heap.size ≤ w'.heap.size) (hoth : ∀ j, j ≠ p.blk → w'.heap[j]? = w.heap[j]?) (hos : w'.os = w.os) (ht : w'.tape = w.tape) (ho : w'.output = w.output) : Sim w0 E (h.set b .dead) w' :=
  s.set hown hp hB hlt hoth hos ht ho (fun _ _ _ e => by cases e) trivial

theorem leave_sound {P : Program} {df : DefF} (hN : NamesOk P) (hdf : DefOk P df) {w0 : Fr} {fn : Func} {tmps : Array Value} {R : Ending → World → Prop} : ∀ (vs : List V) (ds : List Deferred) (E : Env) (u : Option V) (h : Heap) (w : World) (m : FrameMode) (u' : Option V) (h' : Heap),
    leaveL df vs u h = .go u' h' → DRelL E vs ds → UMode E u m → Sim w0 E h w → (∀ E' m' w', E.le E' → UMode E' u' m' → Sim w0 E' h' w' → LeavesInM (Wd none) 0 P fn tmps R [] m' w') → LeavesInM (Wd none) 0 P fn tmps R ds m w
  | [], ds, E, u, h, w, m, u', h', he, hd, hu, s, hR => by
    simp only [leaveL, LR.go.injEq] at he
    obtain ⟨rfl, rfl⟩ := he
    simp only [DRelL] at hd
    subst hd
    exact hR E m w (Env.le.refl E) hu s
  | v :: vs, ds, E, u, h, w, m, u', h', he, hd, hu, s, hR => by
    obtain ⟨d, ds', rfl, hd1, hd2⟩ := hd
    cases v with
    | func f args =>
      simp only [leaveL] at he
      cases hc : df f args u h with
      | fail => rw [hc] at he; cases he
      | go u1 h1 =>
        rw [hc] at he
        simp only at he
        obtain ⟨hf, cap, ht, hl⟩ := hd1
        obtain ⟨⟨fn', hfn, hb⟩, hcall⟩ := hdf _ _ _ _ _ _ hc
        refine ⟨hu.run, .inr ⟨fun h => by simp at h, _, cap, f, d.args ++ cap, ht, ?_, fun _ _ => trivial, ?_⟩⟩
        · rw [ht]
          simp only [invoke]
          exact run_callFunc hN hfn hb _ w
        · have e : d.args ++ cap = (d.args.toList ++ cap.toList).toArray := by apply Array.ext'; simp
          rw [e]
          refine CallsDIn.mono (hcall w0 E w _ m hl hu s) fun e m1 w1 hq => ?_
          obtain ⟨E1, x, rfl, q1, q2, q3⟩ := hq
          exact leave_sound hN hdf vs ds' E1 u1 h1 w1 (settle m1) u' h' he (hd2.mono q1) q2 q3 fun E2 m2 w2 p1 p2 p3 => hR E2 m2 w2 (q1.trans p1) p2 p3
    | ptr b off =>
      simp only [leaveL] at he
      cases hg : h.get b <;> rw [hg] at he <;> simp only at he <;> try (cases he; done)
      obtain ⟨p, hp, hdd⟩ := hd1
      have hb := s.at hp
      rw [hg] at hb
      obtain ⟨p', hp', hB, hh⟩ := hb
      rw [hp] at hp'; cases hp'
      have hplt := (Array.getElem?_eq_some_iff.1 hh).1
      let w1 : World := { w with heap := w.heap.setIfInBounds p.blk (.deferred none) }
      have htake : (Instr.takeDeferred p.blk).run P w = .ok [] w1 := by
        have hgo : (getObj p.blk).run P w = .ok (.deferred (some [])) w := by simp only [getObj, Sem.run, hh]
        have hso : (setObj p.blk (.deferred none)).run P w = .ok () w1 := by simp only [setObj, Sem.run, hh]; rfl
        simp only [Instr.takeDeferred, Sem.run_bind, hgo, Result.andThen_ok, hso, Sem.run_pure]
      have s1 : Sim w0 E (h.set b .dead) w1 := s.gone (by rw [hg]; rfl) hp hB (by simp [w1]) (fun j hj => by simp only [w1, Array.getElem?_setIfInBounds]; rw [if_neg (fun e => hj e.symm)]) rfl rfl rfl
      refine ⟨hu.run, .inl ⟨p.blk, w1, by rw [hdd], htake, ?_⟩⟩
      exact leave_sound hN hdf vs ds' E u _ w1 m u' h' he hd2 hu s1 hR
    | _ => simp [leaveL] at he

/-- the results -/
theorem res_sound {P : Program} {w0 : Fr} {E : Env} {fn : Func} {r : Regs} {h : Heap} {a : Act} {w : World} (k : RegRel0 E fn.ntmps r a) (s : Sim w0 E h w) {vs : List V} (hv : (resC P fn.ntmps fn.results.toList).run r h = some vs) :
    ∃ x, (results fn a.tmps).run P w = .ok x w ∧ Rel E (oneOf vs) x := by
  obtain ⟨ys, p1, p2⟩ := resC_sound (P := P) k s hv
  exact oneOf_rel p1 fn a P w p2

section
variable {C : Ctx}

theorem callBody (ex : ExecF) : CallBody C.P (callWith C ex) := by
  intro f args h v h' he
  trivial

/-- what a call's run tells -/
def PostF (w0 : Fr) (E : Env) (R : Ending → World → Prop) : OR → Prop
  | .val v h' => ∀ E' x w', E.le E' → Rel E' v x → Sim w0 E' h' w' → R (.returned x) w'
  | .pan v h' => ∀ E' x w', E.le E' → Rel E' v x → Sim w0 E' h' w' → R (.panicked (panic1 x)) w'
  | .fail => False

theorem PostF.up {w0 : Fr} {E E' : Env} (h : E.le E') {R : Ending → World → Prop} {x : OR} (k : PostF w0 E R x) : PostF w0 E' R x := by
  cases x with
  | val v hh => exact fun E2 a w h2 => k E2 a w (h.trans h2)
  | pan v hh => exact fun E2 a w h2 => k E2 a w (h.trans h2)
  | fail => exact k

/-- a frame on its way out: what becomes of the call -/
theorem finish_sound (hN : NamesOk C.P) {df : DefF} (hdf : DefOk C.P df) {w0 : Fr} {fn : Func} {E : Env} {r : Regs} {u : Option V} {h : Heap} {a : Act} {w : World} {m : FrameMode} {R : Ending → World → Prop}
    (k : RegRel E fn.ntmps r a) (hu : UMode E u m) (s : Sim w0 E h w)
    (hp : PostF w0 E R (finish (resC C.P fn.ntmps fn.results.toList) r (leaveL df (T.get .bad dslot r).list u h))) : LeavesInM (Wd none) 0 C.P fn a.tmps R a.defers m w := by
  cases hl : leaveL df (T.get .bad dslot r).list u h with
  | fail => rw [hl] at hp; exact hp.elim
  | go u' h' =>
    rw [hl] at hp
    refine leave_sound hN hdf _ a.defers E u h w m u' h' hl k.defers.list hu s fun E' m' w' q1 q2 q3 => ?_
    cases u' with
    | some v =>
      obtain ⟨x, hx, rfl⟩ := q2
      exact hp E' x w' q1 hx q3
    | none =>
      simp only [UMode] at q2
      subst q2
      simp only [finish] at hp
      cases hv : (resC C.P fn.ntmps fn.results.toList).run r h' with
      | none => rw [hv] at hp; exact hp.elim
      | some vs =>
        rw [hv] at hp
        obtain ⟨x, p1, p2⟩ := res_sound (P := C.P) (k.mono q1).toRegRel0 q3 hv
        exact ⟨x, p1, hp E' x w' q1 p2 q3⟩

/-- a deferred call's end -/
theorem defEnd_ok {res : ResC} {u u' : Option V} {x : CR} {h' : Heap} (he : defEnd res u x = .go u' h') : ∃ e r vs, x = .ok e r h' ∧ (e = .normal ∨ e = .ret) ∧ T.get .bad dslot r = .bad ∧ res.run r h' = some vs ∧ u' = u := by
  unfold defEnd at he
  cases x with
  | fail => cases he
  | pan _ _ _ => cases he
  | ok e r h =>
    have main : (bif (T.get .bad dslot r).isBad then (match res.run r h with
      | some _ => LR.go u h
      | none => .fail) else .fail) = .go u' h' → (e = .normal ∨ e = .ret) → ∃ e' r' vs, CR.ok e r h = .ok e' r' h' ∧ (e' = .normal ∨ e' = .ret) ∧ T.get .bad dslot r' = .bad ∧ res.run r' h' = some vs ∧ u' = u := by
      intro he hor
      cases hb : (T.get .bad dslot r).isBad with
      | false => rw [hb] at he; cases he
      | true =>
        rw [hb] at he
        simp only [cond_true] at he
        have hbad : T.get .bad dslot r = .bad := by
          cases hg : T.get .bad dslot r <;> rw [hg] at hb <;> first
            | rfl
            | cases hb
        cases hv : res.run r h with
        | none => rw [hv] at he; cases he
        | some vs =>
          rw [hv] at he
          simp only [LR.go.injEq] at he
          obtain ⟨rfl, rfl⟩ := he
          exact ⟨e, r, vs, rfl, hor, hbad, hv, rfl⟩
    cases e with
    | normal => exact main he (.inl rfl)
    | ret => exact main he (.inr rfl)
    | exit id => cases he

theorem recShape_eq {c : Code} {s : RecS} (h : recShape c = some s) : ∃ id o1 o2 args types, c = .seq (.region id #[o1, o2] false) s.rest ∧ o1.dst = some s.d ∧ o1.op = .call ⟨.builtin .recover, args, types⟩ ∧ o1.guard = none ∧ o2.dst = some s.e ∧ o2.op = .assign s.x ∧ o2.guard = none := by
  unfold recShape at h
  split at h
  case h_2 => cases h
  rename_i id ops rest
  split at h
  case h_2 => cases h
  rename_i o1 o2 hl
  split at h
  case h_2 => cases h
  rename_i d args types e x h1 h2 h3 h4 h5 h6
  cases h
  have hops : ops = #[o1, o2] := by apply Array.ext'; simp [hl]
  subst hops
  exact ⟨id, o1, o2, _, _, rfl, h1, h2, h3, h4, h5, h6⟩

theorem defC_ok (hM : C.P.follows .mixedOrders = true) (hN : NamesOk C.P) {ex : ExecF} (hex : ExecOk C.P ex) : DefOk C.P (defC C.P ex) := by
  intro f args u h u' h' he
  unfold defC at he
  cases hf : C.P.funcs[f]? with
  | none => rw [hf] at he; cases he
  | some fn =>
    rw [hf] at he
    simp only at he
    cases hb : fn.body with
    | none => rw [hb] at he; cases he
    | some c =>
      rw [hb] at he
      simp only at he
      refine ⟨⟨fn, rfl, by rw [hb]; rfl⟩, fun w0 E w xs m hl hu s => ?_⟩
      cases hnt : Nat.ble fn.ntmps top with
      | false => rw [hnt] at he; cases he
      | true =>
        rw [hnt] at he
        simp only [cond_true] at he
        rw [Nat.ble_eq] at hnt
        unfold defRun at he
        cases hal : Nat.ble args.length fn.ntmps with
        | false => rw [hal] at he; cases he
        | true =>
          rw [hal] at he
          simp only [cond_true] at he
          rw [Nat.ble_eq] at hal
          have k := entry_rel hl hal hnt
          cases hr : recShape c with
          | none =>
            rw [hr] at he
            simp only at he
            obtain ⟨e, r, vs, hx, hor, hds, hv, rfl⟩ := defEnd_ok he
            refine CallsDIn.mono (callsDIn_of_wp (R := fun e w' => ∃ E' x, e = .returned x ∧ E.le E' ∧ Sim w0 E' h' w') hf hb trivial ?_) fun e' m' w' hq => ?_
            · refine (hex fn.ntmps c none w0 _ h (.inl rfl) E _ w k s _ ?_).wp
              rw [hx]
              intro E' a' w' q1 q2 q3
              have hd : a'.defers = [] := by have := q2.defers; rw [hds] at this; exact this
              obtain ⟨x, p1, p2⟩ := res_sound (P := C.P) q2.toRegRel0 q3 hv
              rcases hor with rfl | rfl <;> exact ⟨hd, x, p1, E', x, rfl, q1, q3⟩
            · obtain ⟨rfl, E', x, rfl, q1, q3⟩ := hq
              exact ⟨E', x, rfl, q1, by rw [hu.settle]; exact hu.mono q1, q3⟩
          | some sh =>
            rw [hr] at he
            simp only at he
            cases hfine : (dstFine fn.ntmps (some sh.d) && dstFine fn.ntmps (some sh.e)) with
            | false => rw [hfine] at he; cases he
            | true =>
              rw [hfine] at he
              simp only [cond_true] at he
              simp only [Bool.and_eq_true] at hfine
              obtain ⟨e, r, vs, hx, hor, hds, hv, rfl⟩ := defEnd_ok he
              obtain ⟨id, o1, o2, ra, rt, rfl, g1, g2, g3, g4, g5, g6⟩ := recShape_eq hr
              refine callsDIn_of_wpSIn hf hb trivial fun c₀ cs hc₀ => wpSIn_seq (wpSIn_region ?_)
              -- what recover gives, and the frame below afterwards
              obtain ⟨X, hX, cs', hcs, m', hm', hsettle⟩ : ∃ X, Rel E (u.getD .nilIface) X ∧ ∃ cs', (match recoverD (c₀ :: cs) with
                  | some (v, cs'') => v = X ∧ cs'' = cs'
                  | none => X = .nilIface ∧ cs' = c₀ :: cs) ∧ ∃ m', cs' = { c₀ with mode := m' } :: cs ∧ settle m' = .returning := by
                cases u with
                | none =>
                  simp only [UMode] at hu
                  subst hu
                  refine ⟨.nilIface, rfl, c₀ :: cs, ?_, .returning, ?_, rfl⟩
                  · simp only [recoverD, hc₀]; exact ⟨trivial, trivial⟩
                  · rw [← hc₀]
                | some v =>
                  obtain ⟨x, hx, rfl⟩ := hu
                  refine ⟨x, hx, { c₀ with mode := .panicking [{ v := x, recovered := true }] } :: cs, ?_, .panicking [{ v := x, recovered := true }], rfl, rfl⟩
                  simp only [recoverD, hc₀]; exact ⟨trivial, trivial⟩
              have k1 := k.put hfine.1 hX
              have k2 := k1.put hfine.2 (evC_sound k1.toRegRel0 sh.x)
              rw [← g1] at k2
              rw [← g4] at k2
              have hrest := (hex fn.ntmps sh.rest none w0 _ h (.inl rfl) E _ w k2 s (fun e' a' w' => bodyPostS C.P fn c₀ cs (fun e m' w' => ∃ E' x, e = .returned x ∧ E.le E' ∧ UMode E' none (settle m') ∧ Sim w0 E' h' w') e' a' cs' w') (by
                have : recRegs sh u (argRegs 0 args .e) = (putC o2.dst).run ((putC o1.dst).run (argRegs 0 args .e) (u.getD .nilIface)) ((evC sh.x).run ((putC o1.dst).run (argRegs 0 args .e) (u.getD .nilIface))) := by rw [g1, g4]; rfl
                rw [← this, hx]
                intro E' a' w' q1 q2 q3
                have hd : a'.defers = [] := by have := q2.defers; rw [hds] at this; exact this
                obtain ⟨x, p1, p2⟩ := res_sound (P := C.P) q2.toRegRel0 q3 hv
                rcases hor with rfl | rfl <;> exact ⟨hd, m', hm', x, p1, E', x, rfl, q1, hsettle, q3⟩)).wp
              have hwrest := wpSIn_of_wpIn (F := Wd none) rfl hrest
              -- the two operations
              have hw1 : ∀ y, Region.wanted o1 y = true := fun y => by simp [Region.wanted, g3]
              have hw2 : ∀ y, Region.wanted o2 y = true := fun y => by simp [Region.wanted, g6]
              have hrun1 : ∀ (ρ : Operand → Value), (execOp ρ o1).run C.P w = .ok .recover w := fun ρ => by
                obtain ⟨dst, op, type, pos, after, guard⟩ := o1
                simp only at g2
                subst g2
                rfl
              have hrun2 : ∀ (ρ : Operand → Value), (execOp ρ o2).run C.P w = .ok (.value (ρ sh.x)) w := fun ρ => by
                obtain ⟨dst, op, type, pos, after, guard⟩ := o2
                simp only at g5
                subst g5
                rfl
              have hsz : (#[o1, o2] : Array Oper).size = 2 := rfl
              rw [hsz]
              simp only [List.range_succ, List.range_zero, List.nil_append, List.cons_append, wpOpsSIn]
              have e0 : (#[o1, o2] : Array Oper)[0]? = some o1 := rfl
              have e1 : (#[o1, o2] : Array Oper)[1]? = some o2 := rfl
              rw [e0]
              simp only [hw1, if_true, hrun1]
              refine ⟨fun _ _ => trivial, ?_⟩
              cases hrec : recoverD (c₀ :: cs) with
              | none =>
                rw [hrec] at hcs
                obtain ⟨hXn, hcc⟩ := hcs
                subst hXn hcc
                simp only [e1, hw2, if_true, hrun2]
                exact ⟨fun _ _ => trivial, hwrest⟩
              | some vc =>
                obtain ⟨v, cs1⟩ := vc
                rw [hrec] at hcs
                obtain ⟨rfl, rfl⟩ := hcs
                simp only [e1, hw2, if_true, hrun2]
                exact ⟨fun _ _ => trivial, hwrest⟩
end
end
end Go.Proofs.YtpfmfpakbfkfoaaGreatDoor.Am

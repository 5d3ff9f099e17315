/- The abstract machine and its walks (a verified interpreter of the model's code: plain definitions and lemmas, no condition). -/
import Derived.Test.YtigflhomnoledaaGreatDoorM3
import Derived.Scope
import Derived.RangeFuncRecord
import Derived.Carry
import Derived.OpenShut
import Derived.ChangeSame
import Derived.Lib.Bytealg
import Derived.Lib.IndexMore
import Derived.Handed
import Derived.HandedShaped
set_option linter.unusedSectionVars false
set_option linter.unusedSimpArgs false
set_option linter.unusedVariables false
namespace Go.Proofs.YtigflhomnoledaaGreatDoor.Am
variable [Lay]
open Go Go.RowKit
section
variable {P : Program} {nt : Nat} {ops : Array Oper} {call : CallF}
inductive All2 {α β : Type} (R : α → β → Prop) : List α → List β → Prop
  | nil : All2 R [] []
  | cons {a : α} {b : β} {l₁ : List α} {l₂ : List β} (h : R a b) (t : All2 R l₁ l₂) : All2 R (a :: l₁) (b :: l₂)
def readyAt (ops : Array Oper) (t : Nat) (listed : Array Bool) : Option Nat := (Region.ready .any ops listed)[t % (Region.ready .any ops listed).length]?
theorem go_succ (fuel t : Nat) (listed : Array Bool) : Region.linearise.go .any ops (fuel + 1) t listed [] = match readyAt ops t listed with
    | some i => i :: Region.linearise.go .any ops fuel (t / (Region.ready .any ops listed).length) (listed.setIfInBounds i true) []
    | none => [] := by
  simp only [Region.linearise.go]
  change (match (Region.ready .any ops listed)[t % (Region.ready .any ops listed).length]? with
    | some i => Region.linearise.go .any ops fuel (t / (Region.ready .any ops listed).length) (listed.setIfInBounds i true) [i]
    | none => [].reverse) = _
  unfold readyAt
  cases (Region.ready .any ops listed)[t % (Region.ready .any ops listed).length]? with
  | none => rfl
  | some i =>
    simp only
    rw [linearise_go_acc, List.reverse_singleton, List.singleton_append]
theorem readyAt_none {t : Nat} {listed : Array Bool} (h : readyAt ops t listed = none) : Region.ready .any ops listed = [] := by
  unfold readyAt at h
  cases hr : Region.ready .any ops listed with
  | nil => rfl
  | cons x xs =>
    rw [hr] at h
    have hlt : t % (x :: xs).length < (x :: xs).length := Nat.mod_lt _ (by simp)
    rw [List.getElem?_eq_getElem hlt] at h
    cases h
theorem readyAt_some {t i : Nat} {listed : Array Bool} (h : readyAt ops t listed = some i) : i ∈ Region.ready .any ops listed := List.mem_of_getElem? h
theorem count_set {listed : Array Bool} {i : Nat} (hsz : listed.size = ops.size) (hi : i < ops.size) (hn : ¬ listed.getD i false = true) :
    (List.range ops.size).countP (fun k => !(listed.setIfInBounds i true).getD k false) < (List.range ops.size).countP (fun k => !listed.getD k false) := by
  have hl : i < listed.size := by rw [hsz]; exact hi
  refine countP_lt (fun k => !listed.getD k false) (fun k => !(listed.setIfInBounds i true).getD k false) (List.range ops.size) (fun k _ hk => ?_) ⟨i, List.mem_range.2 hi, ?_, ?_⟩
  · simp only [Bool.not_eq_true'] at hk ⊢
    cases hq : listed.getD k false with
    | false => rfl
    | true =>
      have := (getD_set (k := k) hl).2 (.inr hq)
      rw [hk] at this
      cases this
  · cases hq : listed.getD i false with
    | false => rfl
    | true => exact absurd hq hn
  · have := (getD_set (k := i) hl).2 (.inl rfl)
    simp [this]
theorem go_spec (hon : ∀ i o, ops[i]? = some o → onFine i o = true) : ∀ (fuel t : Nat) (listed : Array Bool), listed.size = ops.size → (List.range ops.size).countP (fun i => !listed.getD i false) ≤ fuel →
    (Region.linearise.go .any ops fuel t listed []).Nodup ∧ (∀ k ∈ Region.linearise.go .any ops fuel t listed [], k < ops.size ∧ ¬ listed.getD k false = true) ∧
      ∀ k, k < ops.size → listed.getD k false = true ∨ k ∈ Region.linearise.go .any ops fuel t listed []
  | 0, t, listed, hsz, hc => by
    have e : Region.linearise.go .any ops 0 t listed [] = [] := rfl
    rw [e]
    refine ⟨List.nodup_nil, fun k hk => by simp at hk, fun k hk => .inl ?_⟩
    have h0 : (List.range ops.size).countP (fun i => !listed.getD i false) = 0 := by omega
    rw [List.countP_eq_zero] at h0
    simpa using h0 k (List.mem_range.2 hk)
  | fuel + 1, t, listed, hsz, hc => by
    rw [go_succ]
    cases hr : readyAt ops t listed with
    | none =>
      simp only
      exact ⟨List.nodup_nil, fun k hk => by simp at hk, fun k hk => .inl (ready_nil hon hsz (readyAt_none hr) k hk)⟩
    | some i =>
      simp only
      obtain ⟨i1, i2⟩ := ready_not hsz (readyAt_some hr)
      have hl : i < listed.size := by rw [hsz]; exact i1
      have := count_set hsz i1 i2
      obtain ⟨g1, g2, g3⟩ := go_spec hon fuel (t / (Region.ready .any ops listed).length) (listed.setIfInBounds i true) (by simp [hsz]) (by omega)
      refine ⟨List.nodup_cons.2 ⟨fun hm => (g2 i hm).2 ((getD_set hl).2 (.inl rfl)), g1⟩, fun k hk => ?_, fun k hk => ?_⟩
      · rcases List.mem_cons.1 hk with rfl | hk
        · exact ⟨i1, i2⟩
        · exact ⟨(g2 k hk).1, fun h => (g2 k hk).2 ((getD_set hl).2 (.inr h))⟩
      · rcases g3 k hk with h | h
        · rcases (getD_set hl).1 h with rfl | h
          · exact .inr (by simp)
          · exact .inl h
        · exact .inr (by simp [h])
theorem stepsD_cons {o : Oper} {os : List Oper} {r : Regs} {h : Heap} {es : List Ent} {rf : Regs} {hf : Heap} (he : (stepsD P nt ops (o :: os)).run call r h = .ok es rf hf) :
    ∃ v h1 es1, (dopC P nt ops o).run call r h = .val v h1 ∧ (stepsD P nt ops os).run call ((putC o.dst).run r v) h1 = .ok es1 rf hf ∧ es = ⟨r, h, v⟩ :: es1 := by
  simp only [stepsD, stepD] at he
  cases h1 : (dopC P nt ops o).run call r h with
  | fail => rw [h1] at he; cases he
  | pan _ _ => rw [h1] at he; simp only at he; cases hm : mayPan o.op <;> rw [hm] at he <;> cases he
  | val v hh =>
    rw [h1] at he
    simp only at he
    cases h2 : (stepsD P nt ops os).run call ((putC o.dst).run r v) hh with
    | fail => rw [h2] at he; cases he
    | pan _ _ _ _ _ => rw [h2] at he; cases he
    | ok es1 r1 h3 =>
      rw [h2] at he
      simp only [DR.ok.injEq] at he
      obtain ⟨rfl, rfl, rfl⟩ := he
      exact ⟨v, hh, es1, rfl, h2, rfl⟩
theorem stepsD_mk {o : Oper} {os : List Oper} {r : Regs} {h h1 : Heap} {v : V} {es1 : List Ent} {rf : Regs} {hf : Heap} (h0 : (dopC P nt ops o).run call r h = .val v h1) (h2 : (stepsD P nt ops os).run call ((putC o.dst).run r v) h1 = .ok es1 rf hf) :
    (stepsD P nt ops (o :: os)).run call r h = .ok (⟨r, h, v⟩ :: es1) rf hf := by
  simp only [stepsD, stepD, h0, h2]
theorem stepsD_append : ∀ (l1 l2 : List Oper) {r : Regs} {h : Heap} {es : List Ent} {rf : Regs} {hf : Heap}, (stepsD P nt ops (l1 ++ l2)).run call r h = .ok es rf hf →
    ∃ es1 r1 h1 es2, (stepsD P nt ops l1).run call r h = .ok es1 r1 h1 ∧ (stepsD P nt ops l2).run call r1 h1 = .ok es2 rf hf ∧ es = es1 ++ es2
  | [], l2, r, h, es, rf, hf, he => ⟨[], r, h, es, rfl, he, rfl⟩
  | o :: os, l2, r, h, es, rf, hf, he => by
    obtain ⟨v, h1, es1, q1, q2, rfl⟩ := stepsD_cons he
    obtain ⟨es3, r1, h3, es2, g1, g2, rfl⟩ := stepsD_append os l2 q2
    exact ⟨⟨r, h, v⟩ :: es3, r1, h3, es2, stepsD_mk q1 g1, g2, rfl⟩
theorem stepsD_join : ∀ (l1 l2 : List Oper) {r r1 rf : Regs} {h h1 hf : Heap} {es1 es2 : List Ent}, (stepsD P nt ops l1).run call r h = .ok es1 r1 h1 → (stepsD P nt ops l2).run call r1 h1 = .ok es2 rf hf →
    (stepsD P nt ops (l1 ++ l2)).run call r h = .ok (es1 ++ es2) rf hf
  | [], l2, r, r1, rf, h, h1, hf, es1, es2, he, h2 => by
    simp only [stepsD, DR.ok.injEq] at he
    obtain ⟨rfl, rfl, rfl⟩ := he
    exact h2
  | o :: os, l2, r, r1, rf, h, h1, hf, es1, es2, he, h2 => by
    obtain ⟨v, h3, es3, q1, q2, rfl⟩ := stepsD_cons he
    exact stepsD_mk q1 (stepsD_join os l2 q2 h2)
theorem opsAt_append : ∀ (a b : List Nat), opsAt ops (a ++ b) = opsAt ops a ++ opsAt ops b
  | [], b => rfl
  | x :: xs, b => by simp [opsAt, opsAt_append xs b]
theorem quiet_run : ∀ (l : List Oper), (∀ o ∈ l, isEff P o.op = false ∧ looks o.op = false) → ∀ {r rf : Regs} {h hf : Heap} {es : List Ent}, (stepsD P nt ops l).run call r h = .ok es rf hf →
    hf = h ∧ ∀ H : Heap, ∃ es', (stepsD P nt ops l).run call r H = .ok es' rf H
  | [], _, r, rf, h, hf, es, he => by
    simp only [stepsD, DR.ok.injEq] at he
    obtain ⟨rfl, rfl, rfl⟩ := he
    exact ⟨rfl, fun H => ⟨[], rfl⟩⟩
  | o :: os, hq, r, rf, h, hf, es, he => by
    obtain ⟨v, h1, es1, q1, q2, rfl⟩ := stepsD_cons he
    obtain ⟨e1, e2⟩ := hq o (by simp)
    obtain ⟨d1, d2⟩ := dop_quiet e1 q1
    subst d1
    obtain ⟨g1, g2⟩ := quiet_run os (fun o' ho' => hq o' (by simp [ho'])) q2
    refine ⟨g1, fun H => ?_⟩
    obtain ⟨es', g3⟩ := g2 H
    exact ⟨_, stepsD_mk (d2 e2 H) g3⟩
theorem insArgs_eq {o : Oper} {A : InsA} (h : insArgs o = some A) : o.op = .insert A.t A.m A.k A.x ∧ o.dst = none ∧ o.guard = none := by
  unfold insArgs at h
  split at h
  case h_2 => cases h
  rename_i t m k x ho
  split at h
  case h_2 => cases h
  rename_i hd
  split at h
  case h_2 => cases h
  rename_i hg
  cases h
  exact ⟨ho, hd, hg⟩
theorem putV_new {e : EqC} {k v : V} {c : Nat} : ∀ {es : List ME}, (∀ m ∈ es, e.run k m.k = some false) → putV e k v c es = some (es ++ [⟨k, v, c⟩], true)
  | [], _ => rfl
  | m :: ms, h => by
    simp only [putV, h m (by simp), cond_false, putV_new (es := ms) fun m' hm' => h m' (by simp [hm']), List.cons_append]
theorem dop_insert {o : Oper} {A : InsA} (hkf : keyFitsT P A.t = true) (hA : insArgs o = some A) {r : Regs} {H1 H2 : Heap} {v : V} (he : (dopC P nt ops o).run call r H1 = .val v H2) {b : Pa} (hb : (evC A.m).run (trimR r (readsOf ops o)) = .map b) :
    ∀ (H : Heap) es c, H.get b = .mp es c → (∀ m ∈ es, (keyEq P A.t).run ((evC A.k).run (trimR r (readsOf ops o))) m.k = some false) →
      (dopC P nt ops o).run call r H = .val .bad (H.set b (.mp (es ++ [⟨(evC A.k).run (trimR r (readsOf ops o)), (evC A.x).run (trimR r (readsOf ops o)), c⟩]) (c + 1))) := by
  obtain ⟨ho, hd, hg⟩ := insArgs_eq hA
  obtain ⟨h1, h2⟩ := dopC_fine he
  have key : dopC P nt ops o = ⟨dopRun none (cop P o) (readsOf ops o)⟩ := by
    unfold dopC
    rw [show (dstFine nt o.dst && smallT (readsOf ops o)) = true from by rw [h1, h2]; rfl, hg]
    rfl
  rw [key] at he ⊢
  simp only [dopRun] at he ⊢
  have hcop : ∀ H, (cop P o).run call (trimR r (readsOf ops o)) H = orHeap .bad ((updC P A.t).run H (.map b) ((evC A.k).run (trimR r (readsOf ops o))) ((evC A.x).run (trimR r (readsOf ops o)))) := by
    intro H
    unfold cop
    rw [ho]
    simp only [hb]
  rw [hcop] at he
  have hupd : updC P A.t = ⟨updV (keyEq P A.t)⟩ := by
    cases hs : (updC P A.t).run H1 (.map b) ((evC A.k).run (trimR r (readsOf ops o))) ((evC A.x).run (trimR r (readsOf ops o))) with
    | none => rw [hs] at he; cases he
    | some h3 =>
      unfold updC at hs ⊢
      unfold keyEq
      cases ht : tiOf P A.t with
      | none => rw [ht] at hs; cases hs
      | some ti =>
        rw [ht] at hs
        simp only at hs ⊢
        cases hund : ti.und <;> rw [hund] at hs <;> simp only at hs ⊢ <;> try (cases hs; done)
        rename_i kt et
        cases hkt : tiOf P kt with
        | none => rw [hkt] at hs; cases hs
        | some ki =>
          rw [hkt] at hs
          simp only at hs ⊢
          cases hf : keyFits ki.und with
          | false =>
            unfold keyFitsT at hkf
            rw [ht] at hkf
            simp only [hund, hkt, hf] at hkf
            cases hkf
          | true => rfl
  intro H es c hH hk
  rw [hcop, hupd]
  simp only [updV, hH, Blk.onMap, putV_new hk, orHeap, cond_true]
theorem insEnt_eq {o : Oper} {r : Regs} {b : Pa} {m : ME} (h : insEnt ops r b o = some m) : ∃ A, insArgs o = some A ∧ (evC A.m).run (trimR r (readsOf ops o)) = .map b ∧ m.k = (evC A.k).run (trimR r (readsOf ops o)) ∧ m.v = (evC A.x).run (trimR r (readsOf ops o)) := by
  unfold insEnt at h
  cases ha : insArgs o with
  | none => rw [ha] at h; cases h
  | some A =>
    rw [ha] at h
    simp only at h
    cases hm : (evC A.m).run (trimR r (readsOf ops o)) <;> rw [hm] at h <;> simp only at h <;> try (cases h; done)
    obtain ⟨hc, h1⟩ := cond_some h
    have := Pa.eqB_eq hc
    subst this
    cases h1
    exact ⟨A, rfl, hm, rfl, rfl⟩
def EntOf (ops : Array Oper) (r : Regs) (b : Pa) (i : Nat) (m : ME) : Prop := ∃ o, ops[i]? = some o ∧ insEnt ops r b o = some m
theorem EntOf.det {r : Regs} {b : Pa} {i : Nat} {m m' : ME} (h : EntOf ops r b i m) (h' : EntOf ops r b i m') : m = m' := by
  obtain ⟨o, h1, h2⟩ := h
  obtain ⟨o', h3, h4⟩ := h'
  rw [h1] at h3; cases h3
  rw [h2] at h4; cases h4
  rfl
theorem insEnts_all {r : Regs} {b : Pa} : ∀ {is : List Nat} {ms : List ME}, insEnts ops r b is = some ms → All2 (EntOf ops r b) is ms
  | [], ms, h => by simp only [insEnts, Option.some.injEq] at h; subst h; exact .nil
  | i :: is, ms, h => by
    simp only [insEnts] at h
    cases ho : ops[i]? with
    | none => rw [ho] at h; cases h
    | some o =>
      rw [ho] at h
      simp only at h
      cases hm : insEnt ops r b o with
      | none => rw [hm] at h; cases h
      | some m =>
        rw [hm] at h
        simp only at h
        cases hs : insEnts ops r b is with
        | none => rw [hs] at h; cases h
        | some ms' =>
          rw [hs] at h
          simp only [Option.some.injEq] at h
          subst h
          exact .cons ⟨o, ho, hm⟩ (insEnts_all hs)
theorem isFalse_eq {x : Option Bool} (h : isFalse x = true) : x = some false := by
  cases x with
  | none => cases h
  | some b => cases b <;> simp_all [isFalse]
theorem apartK_mem {e : EqC} {m : ME} : ∀ {ms : List ME}, apartK e m ms = true → ∀ m' ∈ ms, e.run m.k m'.k = some false ∧ e.run m'.k m.k = some false
  | [], _, m', h => by simp at h
  | x :: xs, h, m', hm => by
    simp only [apartK, Bool.and_eq_true] at h
    rcases List.mem_cons.1 hm with rfl | hm
    · exact ⟨isFalse_eq h.1, isFalse_eq h.2.1⟩
    · exact apartK_mem h.2.2 m' hm
theorem apart_of {r : Regs} {b : Pa} {e : EqC} : ∀ {is : List Nat} {ms : List ME}, All2 (EntOf ops r b) is ms → is.Nodup → apartAll e ms = true → ∀ i j m m', i ∈ is → j ∈ is → i ≠ j → EntOf ops r b i m → EntOf ops r b j m' → e.run m.k m'.k = some false
  | _, _, .nil, _, _, i, _, _, _, hi, _, _, _, _ => by simp at hi
  | _, _, .cons (a := x) (b := mx) (l₁ := xs) (l₂ := mxs) h0 ht, hn, ha, i, j, m, m', hi, hj, hij, hm, hm' => by
    simp only [apartAll, Bool.and_eq_true] at ha
    rw [List.nodup_cons] at hn
    have inTail : ∀ k n, k ∈ xs → EntOf ops r b k n → n ∈ mxs := by
      intro k n hk hkn
      have gen : ∀ {is : List Nat} {ms : List ME}, All2 (EntOf ops r b) is ms → k ∈ is → n ∈ ms := by
        intro is ms hf
        induction hf with
        | nil => intro hk; simp at hk
        | cons h1 _ ih =>
          intro hk
          rcases List.mem_cons.1 hk with rfl | hk
          · rw [hkn.det h1]; simp
          · exact List.mem_cons_of_mem _ (ih hk)
      exact gen ht hk
    rcases List.mem_cons.1 hi with hix | hi
    · rcases List.mem_cons.1 hj with hjx | hj
      · exact absurd (hix.trans hjx.symm) hij
      · rw [hix] at hm
        rw [hm.det h0]
        exact (apartK_mem ha.1 m' (inTail j m' hj hm')).1
    · rcases List.mem_cons.1 hj with hjx | hj
      · rw [hjx] at hm'
        rw [hm'.det h0]
        exact (apartK_mem ha.1 m (inTail i m hi hm)).2
      · exact apart_of ht hn.2 ha.2 i j m m' hi hj hij hm hm'
theorem ins_run {rP : Regs} {b : Pa} {e : EqC} {I : List Nat} (hI : ∀ i ∈ I, ∃ o A m, ops[i]? = some o ∧ insArgs o = some A ∧ (keyFitsT P A.t = true ∧ keyEq P A.t = e) ∧ insEnt ops rP b o = some m ∧ ∃ v H1 H2, (dopC P nt ops o).run call rP H1 = .val v H2)
    (hap : ∀ i j m m', i ∈ I → j ∈ I → i ≠ j → EntOf ops rP b i m → EntOf ops rP b j m' → e.run m.k m'.k = some false) :
    ∀ (τ : List Nat) (done : List Nat) (ds : List ME) (c : Nat) (H : Heap), (∀ i ∈ τ, i ∈ I) → (∀ i ∈ done, i ∈ I) → (done ++ τ).Nodup → (∀ m ∈ ds, ∃ i ∈ done, ∃ m', EntOf ops rP b i m' ∧ m.k = m'.k) → H.get b = .mp ds c →
      ∃ es ms c' H', (stepsD P nt ops (opsAt ops τ)).run call rP H = .ok es rP H' ∧ H'.get b = .mp (ds ++ ms) c' ∧ (∀ k, b ≠ k → H'.get k = H.get k) ∧ (∀ k, H'.set b k = H.set b k) ∧ (∀ e ∈ es, ∀ k, b ≠ k → e.h.get k = H.get k) ∧
        All2 (fun i (m : ME) => ∃ m', EntOf ops rP b i m' ∧ m.k = m'.k ∧ m.v = m'.v) τ ms
  | [], done, ds, c, H, _, _, _, _, hH => ⟨[], [], c, H, rfl, by rw [List.append_nil]; exact hH, fun _ _ => rfl, fun _ => rfl, fun e he => by simp at he, .nil⟩
  | i :: τ, done, ds, c, H, hτ, hdone, hnd, hds, hH => by
    obtain ⟨o, A, m, ho, hA, ⟨hkf, hke⟩, hm, v, H1, H2, hrun⟩ := hI i (hτ i (by simp))
    obtain ⟨A', hA', hb, hk, hx⟩ := insEnt_eq hm
    rw [hA] at hA'; cases hA'
    have hni : i ∉ done := fun h => by
      rw [List.nodup_append] at hnd
      exact hnd.2.2 i h i (by simp) rfl
    have hstep := dop_insert hkf hA hrun hb H ds c hH (fun m' hm' => by
      obtain ⟨j, hj, mj, hej, hkj⟩ := hds m' hm'
      rw [hkj, hke, ← hk]
      exact hap i j m mj (hτ i (by simp)) (hdone j hj) (fun e => hni (e ▸ hj)) ⟨o, ho, hm⟩ hej)
    obtain ⟨_, hd, _⟩ := insArgs_eq hA
    obtain ⟨es, ms, c', H', g1, g2, g3, g4, g6, g5⟩ := ins_run hI hap τ (done ++ [i]) (ds ++ [⟨(evC A.k).run (trimR rP (readsOf ops o)), (evC A.x).run (trimR rP (readsOf ops o)), c⟩]) (c + 1)
      (H.set b (.mp (ds ++ [⟨(evC A.k).run (trimR rP (readsOf ops o)), (evC A.x).run (trimR rP (readsOf ops o)), c⟩]) (c + 1))) (fun j hj => hτ j (by simp [hj]))
      (fun j hj => by
        rcases List.mem_append.1 hj with h | h
        · exact hdone j h
        · simp only [List.mem_singleton] at h; subst h; exact hτ j (by simp)) (by simpa using hnd)
      (fun m' hm' => by
        rcases List.mem_append.1 hm' with h | h
        · obtain ⟨j, hj, r⟩ := hds m' h
          exact ⟨j, by simp [hj], r⟩
        · simp only [List.mem_singleton] at h; subst h
          exact ⟨i, by simp, m, ⟨o, ho, hm⟩, hk.symm⟩) (by rw [Heap.get_set, if_pos rfl])
    have hsteps := stepsD_mk (os := opsAt ops τ) hstep (by rw [hd]; exact g1)
    rw [show o :: opsAt ops τ = opsAt ops (i :: τ) from by simp [opsAt, ho]] at hsteps
    refine ⟨_, ⟨(evC A.k).run (trimR rP (readsOf ops o)), (evC A.x).run (trimR rP (readsOf ops o)), c⟩ :: ms, c', H', hsteps, by rw [g2, List.append_assoc]; rfl, fun k hk => ?_, fun k => ?_, fun e' he' k hk => ?_, .cons ⟨m, ⟨o, ho, hm⟩, hk.symm, hx.symm⟩ g5⟩
    · rw [g3 k hk, Heap.get_set, if_neg hk]
    · rw [g4]
      unfold Heap.set
      simp only [T.put_put]
    · rcases List.mem_cons.1 he' with rfl | he'
      · rfl
      · rw [g6 e' he' k hk, Heap.get_set, if_neg hk]
def PRel (E : Env) : List (V × V) → List MapEntry → Prop
  | [], l => l = []
  | p :: ps, l => ∃ e es, l = e :: es ∧ Rel E p.1 e.key ∧ Rel E p.2 e.val ∧ PRel E ps es
theorem PRel.perm {E : Env} {ps qs : List (V × V)} (h : ps.Perm qs) : ∀ {l : List MapEntry}, PRel E qs l → ∃ l', PRel E ps l' ∧ l'.Perm l := by
  induction h with
  | nil => intro l h; exact ⟨l, h, .refl _⟩
  | cons x _ ih =>
    intro l h
    obtain ⟨e, es, rfl, h1, h2, h3⟩ := h
    obtain ⟨l', g1, g2⟩ := ih h3
    exact ⟨e :: l', ⟨e, l', rfl, h1, h2, g1⟩, g2.cons e⟩
  | swap x y zs =>
    intro l h
    obtain ⟨e, es, rfl, h1, h2, e', es', rfl, h3, h4, h5⟩ := h
    exact ⟨e' :: e :: es', ⟨e', _, rfl, h3, h4, e, es', rfl, h1, h2, h5⟩, List.Perm.swap _ _ _⟩
  | trans _ _ ih1 ih2 =>
    intro l h
    obtain ⟨l1, g1, g2⟩ := ih2 h
    obtain ⟨l2, g3, g4⟩ := ih1 g1
    exact ⟨l2, g3, g4.trans g2⟩
theorem PRel.of_mrel {E : Env} : ∀ {ms : List ME} {l : List MapEntry}, MRel E ms l → PRel E (ms.map fun m => (m.k, m.v)) l
  | [], l, h => h
  | m :: ms, l, h => by
    obtain ⟨e, es, rfl, h1, h2, _, h4⟩ := h
    exact ⟨e, es, rfl, h1, h2, PRel.of_mrel h4⟩
theorem URel.of_prel {E : Env} : ∀ {ms : List ME} {l : List MapEntry}, PRel E (ms.map fun m => (m.k, m.v)) l → URel E ms l
  | [], l, h => h
  | m :: ms, l, h => by
    obtain ⟨e, es, rfl, h1, h2, h4⟩ := h
    exact ⟨e, es, rfl, h1, h2, URel.of_prel h4⟩
theorem Sim.forget {w0 : Fr} {E : Env} {h : Heap} {w : World} (s : Sim w0 E h w) {b : Pa} {p : Pl} {es ms : List ME} {c : Nat} (hg : h.get b = .mp es c) (hp : E b = some p) (hperm : (ms.map fun m => (m.k, m.v)).Perm (es.map fun m => (m.k, m.v))) :
    Sim w0 E (h.set b (.mset ms)) w := by
  have hb := s.at hp
  rw [hg] at hb
  obtain ⟨p', a, hp', hB, hh, hm⟩ := hb
  rw [hp] at hp'; cases hp'
  obtain ⟨l, g1, g2⟩ := PRel.perm hperm (PRel.of_mrel hm)
  exact s.set (by rw [hg]; rfl) hp hB (Nat.le_refl _) (fun _ _ => rfl) rfl rfl rfl (fun _ _ _ e => by cases e) ⟨p, a, c, l, hp, hB, hh, URel.of_prel g1, g2⟩
theorem ins_facts : ∀ (l : List Oper), (∀ o ∈ l, o.dst = none) → ∀ {r rf : Regs} {h hf : Heap} {es : List Ent}, (stepsD P nt ops l).run call r h = .ok es rf hf → ∀ o ∈ l, ∃ v H1 H2, (dopC P nt ops o).run call r H1 = .val v H2
  | [], _, _, _, _, _, _, _, o, ho => by simp at ho
  | x :: xs, hd, r, rf, h, hf, es, he, o, ho => by
    obtain ⟨v, h1, es1, q1, q2, rfl⟩ := stepsD_cons he
    rcases List.mem_cons.1 ho with rfl | ho
    · exact ⟨v, h, h1, q1⟩
    · rw [hd x (by simp)] at q2
      exact ins_facts xs (fun o' ho' => hd o' (by simp [ho'])) q2 o ho
theorem loadC_congr {t : TypeId} {H H1 : Heap} {c : Pa} {off : Nat} (h : H.get c = H1.get c) : (loadC P t).run H (.ptr c off) = (loadC P t).run H1 (.ptr c off) := by
  unfold loadC
  cases tiOf P t with
  | none => rfl
  | some ti =>
    simp only
    cases ti.agg with
    | true => simp only [cond_true, loadMany, V.onPtr, h]
    | false =>
      simp only [cond_false]
      cases Nat.beq ti.size 1 with
      | true => simp only [cond_true, loadOne, V.onPtr, h]
      | false => rfl
theorem dop_load {o : Oper} {t : TypeId} {x : Operand} (ho : o.op = .load t x) (hg : o.guard = none) {r : Regs} {H1 h' : Heap} {v : V} (he : (dopC P nt ops o).run call r H1 = .val v h') {c : Pa} {off : Nat} (hx : (evC x).run (trimR r (readsOf ops o)) = .ptr c off)
    (H : Heap) (hH : H.get c = H1.get c) : (dopC P nt ops o).run call r H = .val v H := by
  obtain ⟨h1, h2⟩ := dopC_fine he
  have key : dopC P nt ops o = ⟨dopRun none (cop P o) (readsOf ops o)⟩ := by
    unfold dopC
    rw [show (dstFine nt o.dst && smallT (readsOf ops o)) = true from by rw [h1, h2]; rfl, hg]
    rfl
  rw [key] at he ⊢
  simp only [dopRun] at he ⊢
  have hcop : ∀ H, (cop P o).run call (trimR r (readsOf ops o)) H = OR.of H ((loadC P t).run H (.ptr c off)) := by
    intro H
    unfold cop
    rw [ho]
    simp only [hx]
  rw [hcop] at he ⊢
  rw [loadC_congr hH]
  exact OR.of_any he H
theorem loadsFine_get {es : List Ent} {h : Heap} {b : Pa} : ∀ {is : List Nat} {p : Nat}, loadsFine P ops es h b call nt is p = true → ∀ q i o t x, is[q]? = some i → ops[i]? = some o → o.op = .load t x →
    ∃ e c off h', es[p + q]? = some e ∧ (evC x).run (trimR e.r (readsOf ops o)) = .ptr c off ∧ c ≠ b ∧ o.guard = none ∧ (dopC P nt ops o).run call e.r h = .val e.v h'
  | [], _, _, q, i, o, t, x, h, _, _ => by simp at h
  | j :: js, p, hl, q, i, o, t, x, hq, ho, hop => by
    simp only [loadsFine] at hl
    cases q with
    | succ q =>
      cases hj : ops[j]? with
      | none => rw [hj] at hl; cases hl
      | some oj =>
        rw [hj] at hl
        simp only [Bool.and_eq_true] at hl
        have := loadsFine_get hl.2 q i o t x (by simpa using hq) ho hop
        rw [show p + (q + 1) = p + 1 + q from by omega]
        exact this
    | zero =>
      simp only [List.getElem?_cons_zero, Option.some.injEq] at hq
      subst hq
      rw [ho] at hl
      simp only [Bool.and_eq_true] at hl
      have h1 := hl.1
      rw [hop] at h1
      simp only at h1
      rw [Nat.add_zero]
      cases he : es[p]? with
      | none => rw [he] at h1; cases h1
      | some e =>
        rw [he] at h1
        simp only at h1
        cases hx : (evC x).run (trimR e.r (readsOf ops o)) <;> rw [hx] at h1 <;> simp only at h1 <;> try (cases h1; done)
        rename_i c off
        simp only [Bool.and_eq_true, Bool.not_eq_true'] at h1
        cases hg : o.guard with
        | some _ => rw [hg] at h1; cases h1.2
        | none =>
          rw [hg] at h1
          simp only at h1
          have h2 := h1.2
          cases hr : (dopC P nt ops o).run call e.r h with
          | fail => rw [hr] at h2; cases h2
          | pan _ _ => rw [hr] at h2; cases h2
          | val v h' =>
            rw [hr] at h2
            have hv := eqV_eq h2
            exact ⟨e, c, off, h', rfl, hx, (fun e => by rw [e, Pa.eqB_refl] at h1; cases h1.1), rfl, by rw [hr, hv]⟩
theorem idx_of {k : Nat} : ∀ {l : List Nat} {p : Nat}, l.Nodup → l[p]? = some k → l.idxOf k = p
  | [], _, _, h => by simp at h
  | x :: xs, p, hn, h => by
    rw [List.nodup_cons] at hn
    cases p with
    | zero =>
      simp only [List.getElem?_cons_zero, Option.some.injEq] at h
      subst h
      simp
    | succ p =>
      have hx : xs[p]? = some k := by simpa using h
      have hne : x ≠ k := fun e => hn.1 (e ▸ List.mem_of_getElem? hx)
      rw [List.idxOf_cons]
      simp only [beq_iff_eq, hne, cond_false, show (x == k) = false from by simpa using hne]
      rw [idx_of hn.2 hx]
def isInsAt (ops : Array Oper) (i : Nat) : Bool :=
  match ops[i]? with
  | some o => isIns o
  | none => false
theorem isIns_of {o : Oper} {A : InsA} (h : insArgs o = some A) : isIns o = true ∧ isEff P o.op = true ∧ isAlloc o = false := by
  obtain ⟨ho, _, _⟩ := insArgs_eq h
  refine ⟨by unfold isIns; rw [ho], by rw [ho]; rfl, by unfold isAlloc; rw [ho]⟩
theorem litFine_spec {poss : List Nat} {n0 n1 : Nat} {t : TypeId} (hf : litFine P ops poss n0 n1 t = true) : ∀ i o, ops[i]? = some o → ∃ mi, (masksFrom [] ops.toList)[i]? = some mi ∧ onFine i o = true ∧
    (∀ k ok, ops[k]? = some ok → ∃ mk, (masksFrom [] ops.toList)[k]? = some mk ∧ pairFine i mi (readsOf ops o) o.dst k mk ok (Nat.blt (posOf poss k) (posOf poss i)) = true) ∧
    (posOf poss i < n0 → isIns o = false ∧ isChain P o = false ∧ (looks o.op = true → isEff P o.op = false → ∃ t x, o.op = .load t x)) ∧
    (¬ posOf poss i < n0 → posOf poss i < n1 → ∃ A, insArgs o = some A ∧ A.t = t) ∧
    (¬ posOf poss i < n0 → ¬ posOf poss i < n1 → isEff P o.op = false ∧ looks o.op = false) := by
  unfold litFine at hf
  simp only [Bool.and_eq_true] at hf
  replace hf := hf.2
  intro i o hi
  obtain ⟨mi, h1, h2⟩ := zipAll_get hf i o (by simpa using hi)
  simp only [Nat.zero_add, Bool.and_eq_true] at h2
  obtain ⟨⟨h3, h4⟩, h5⟩ := h2
  refine ⟨mi, h1, h3, fun k ok hk => ?_, fun hlt => ?_, fun hge hlt => ?_, fun hge hge2 => ?_⟩
  · obtain ⟨mk, k1, k2⟩ := zipAll_get h4 k ok (by simpa using hk)
    simp only [Nat.zero_add] at k2
    exact ⟨mk, k1, k2⟩
  · rw [show Nat.blt (posOf poss i) n0 = true from by rw [Nat.blt_eq]; exact hlt] at h5
    simp only [cond_true, Bool.and_eq_true, Bool.not_eq_true', Bool.or_eq_true] at h5
    refine ⟨h5.1.1, h5.1.2, fun hl he => ?_⟩
    rcases h5.2 with (h | h) | h
    · rw [hl] at h; cases h
    · rw [he] at h; cases h
    · cases hop : o.op <;> rw [hop] at h <;> simp only at h <;> first
        | (cases h; done)
        | exact ⟨_, _, rfl⟩
  · rw [show Nat.blt (posOf poss i) n0 = false from by rw [← Bool.not_eq_true, Nat.blt_eq]; exact hge, show Nat.blt (posOf poss i) n1 = true from by rw [Nat.blt_eq]; exact hlt] at h5
    simp only [cond_true, cond_false] at h5
    cases ha : insArgs o with
    | none => rw [ha] at h5; cases h5
    | some A => rw [ha] at h5; exact ⟨A, rfl, Nat.eq_of_beq_eq_true h5⟩
  · rw [show Nat.blt (posOf poss i) n0 = false from by rw [← Bool.not_eq_true, Nat.blt_eq]; exact hge, show Nat.blt (posOf poss i) n1 = false from by rw [← Bool.not_eq_true, Nat.blt_eq]; exact hge2] at h5
    simp only [cond_false, Bool.and_eq_true, Bool.not_eq_true'] at h5
    exact h5
theorem litMap_spec {order : List Nat} {es : List Ent} {n0 : Nat} {b : Pa} {rP : Regs} {A : InsA} (h : litMap ops order es n0 = some (b, rP, A)) :
    ∃ e i o, es[n0]? = some e ∧ order[n0]? = some i ∧ ops[i]? = some o ∧ insArgs o = some A ∧ e.r = rP := by
  unfold litMap at h
  cases he : es[n0]? with
  | none => rw [he] at h; cases h
  | some e =>
    rw [he] at h
    simp only at h
    cases hi : order[n0]? with
    | none => rw [hi] at h; cases h
    | some i =>
      rw [hi] at h
      simp only at h
      cases ho : ops[i]? with
      | none => rw [ho] at h; cases h
      | some o =>
        rw [ho] at h
        simp only at h
        cases ha : insArgs o with
        | none => rw [ha] at h; cases h
        | some A' =>
          rw [ha] at h
          simp only at h
          cases hm : (evC A'.m).run (trimR e.r (readsOf ops o)) <;> rw [hm] at h <;> simp only at h <;> try (cases h; done)
          simp only [Option.some.injEq, Prod.mk.injEq] at h
          obtain ⟨_, h2, rfl⟩ := h
          exact ⟨e, i, o, rfl, rfl, ho, ha, h2⟩
theorem map_of_ents {r : Regs} {b : Pa} {f : Nat → V × V} (hf : ∀ i m, EntOf ops r b i m → f i = (m.k, m.v)) : ∀ {is : List Nat} {ms : List ME}, All2 (fun i (m : ME) => ∃ m', EntOf ops r b i m' ∧ m.k = m'.k ∧ m.v = m'.v) is ms → ms.map (fun m => (m.k, m.v)) = is.map f
  | _, _, .nil => rfl
  | _, _, .cons (a := i) (b := m) h0 ht => by
    obtain ⟨m', h1, h2, h3⟩ := h0
    simp only [List.map_cons, map_of_ents hf ht, hf i m' h1, h2, h3]
theorem posOf_at {n : Nat} {order poss : List Nat} (hperm : permOk n order poss = true) {p i : Nat} (h : order[p]? = some i) : posOf poss i = p ∧ i < n := by
  unfold permOk at hperm
  simp only [Bool.and_eq_true, Nat.beq_eq] at hperm
  obtain ⟨_, h2, _, h4⟩ := hperm
  have := permAt_get h4 h
  rw [Nat.zero_add] at this
  refine ⟨by unfold posOf; rw [this]; rfl, ?_⟩
  have := (List.getElem?_eq_some_iff.1 this).1
  omega
theorem nodup_of_pos {l : List Nat} {f : Nat → Nat} (h : ∀ p i, l[p]? = some i → f i = p) : l.Nodup := by
  rw [List.Nodup, List.pairwise_iff_getElem]
  intro i j hi hj hij he
  have h1 := h i _ (List.getElem?_eq_getElem hi)
  have h2 := h j _ (List.getElem?_eq_getElem hj)
  rw [he, h2] at h1
  omega
theorem All2.left {α β : Type} {R : α → β → Prop} : ∀ {l1 : List α} {l2 : List β}, All2 R l1 l2 → ∀ x ∈ l1, ∃ y ∈ l2, R x y
  | _, _, .nil, x, h => by simp at h
  | _, _, .cons h0 ht, x, h => by
    rcases List.mem_cons.1 h with rfl | h
    · exact ⟨_, by simp, h0⟩
    · obtain ⟨y, h1, h2⟩ := ht.left x h
      exact ⟨y, by simp [h1], h2⟩
theorem isIns_eff {o : Oper} (h : isIns o = true) : isEff P o.op = true ∧ isAlloc o = false := by
  unfold isIns at h
  unfold isAlloc
  cases ho : o.op <;> rw [ho] at h <;> simp only at h <;> first
    | (cases h; done)
    | exact ⟨rfl, rfl⟩
theorem three_at {pre σ post : List Nat} (hnd : (pre ++ (σ ++ post)).Nodup) (k q : Nat) : (pre[q]? = some k → (pre ++ (σ ++ post)).idxOf k = q) ∧ (σ[q]? = some k → (pre ++ (σ ++ post)).idxOf k = pre.length + q) ∧ (post[q]? = some k → (pre ++ (σ ++ post)).idxOf k = pre.length + σ.length + q) := by
  refine ⟨fun h => idx_of hnd ?_, fun h => idx_of hnd ?_, fun h => idx_of hnd ?_⟩
  · have := (List.getElem?_eq_some_iff.1 h).1
    rw [List.getElem?_append_left this]
    exact h
  · have := (List.getElem?_eq_some_iff.1 h).1
    rw [List.getElem?_append_right (by omega), Nat.add_sub_cancel_left, List.getElem?_append_left this]
    exact h
  · rw [List.getElem?_append_right (by omega), List.getElem?_append_right (by omega)]
    rw [show pre.length + σ.length + q - pre.length - σ.length = q from by omega]
    exact h
theorem lit_go {rd : Option Nat} {D : List Deferred} {w0 : Fr} {calls : Nat → CallF} {es : List Ent} {r0 : Regs} {h0 : Heap} {rf : Regs} {hf : Heap} {starts order poss : List Nat} (hN : NamesOk P) (hcall : ∀ i, CallOk P (calls i)) (hbody : ∀ i, CallBody P (calls i))
    (C : Cert P nt ops calls es r0 h0 rf hf starts order poss ops.size ops.size true) {E0 : Env} {Q : Exit → Act → World → Prop}
    (hQ : ∀ E' a' w', E0.le E' → RegRel0 E' nt rf a' → a'.defers = D → Sim w0 E' hf w' → Q .normal a' w') {S0 : List Nat}
    (hS : ∀ i k, isInsAt ops i = true → isInsAt ops k = true → posOf poss k < posOf poss i → ∀ a b, S0 = a ++ i :: b → k ∈ a) :
    ∀ (fuel t : Nat) (listed : Array Bool) (done : List Nat) (a : Act) (w : World), S0 = done ++ Region.linearise.go .any ops fuel t listed [] → (∀ k, k < ops.size → (listed.getD k false = true ↔ k ∈ done)) →
      (List.range ops.size).countP (fun i => !listed.getD i false) ≤ fuel → DInv P w0 nt ops es r0 hf starts poss E0 ops.size D listed a w → wpOpsIn (Wd rd) 0 P ops Q (Region.linearise.go .any ops fuel t listed []) a w := by
  have hon : ∀ i o, ops[i]? = some o → onFine i o = true := fun i o h => by obtain ⟨_, _, h2, _⟩ := C.fine i o h; exact h2
  have fin : ∀ (listed : Array Bool) (a : Act) (w : World), (∀ k, k < ops.size → listed.getD k false = true) → DInv P w0 nt ops es r0 hf starts poss E0 ops.size D listed a w → Q .normal a w := by
    intro listed a w hall I
    obtain ⟨E', g1, g2, g3, g4⟩ := dinv_full C (Nat.le_refl _) I fun k hk _ => hall k hk
    exact hQ E' a w g1 g2 g3 g4
  intro fuel
  induction fuel with
  | zero =>
    intro t listed done a w hS0 hld hc I
    have h0 : (List.range ops.size).countP (fun i => !listed.getD i false) = 0 := by omega
    rw [List.countP_eq_zero] at h0
    exact fin listed a w (fun k hk => by simpa using h0 k (List.mem_range.2 hk)) I
  | succ fuel ih =>
    intro t listed done a w hS0 hld hc I
    rw [go_succ] at hS0 ⊢
    cases hr : readyAt ops t listed with
    | none => exact fin listed a w (fun k hk => ready_nil hon I.lsize (readyAt_none hr) k hk) I
    | some i =>
      rw [hr] at hS0
      simp only at hS0 ⊢
      obtain ⟨i1, i2⟩ := ready_not I.lsize (readyAt_some hr)
      have hl : i < listed.size := by rw [I.lsize]; exact i1
      have hcnt := count_set I.lsize i1 i2
      rw [wpOpsIn_cons]
      refine draw_step hN hcall hbody C I (readyAt_some hr) (C.posLt i i1).1 (fun _ o k ok hio hins hko hkins hlt => ?_) (fun a' w' I' => ih _ _ (done ++ [i]) a' w' (by rw [List.append_assoc]; exact hS0) (fun k hk => ?_) (by omega) I') (fun _ _ _ _ _ _ _ h => absurd h (Nat.lt_irrefl _))
      · have hk : k < ops.size := (Array.getElem?_eq_some_iff.1 hko).1
        exact (hld k hk).2 (hS i k (by unfold isInsAt; rw [hio]; exact hins) (by unfold isInsAt; rw [hko]; exact hkins) hlt _ _ hS0)
      · rw [getD_set hl, hld k hk, List.mem_append, List.mem_singleton]
        exact Or.comm
noncomputable def entPair (ops : Array Oper) (r : Regs) (b : Pa) (i : Nat) : V × V :=
  match ops[i]? with
  | some o => (match insEnt ops r b o with
    | some m => (m.k, m.v)
    | none => (.bad, .bad))
  | none => (.bad, .bad)
theorem entPair_of {r : Regs} {b : Pa} {i : Nat} {m : ME} (h : EntOf ops r b i m) : entPair ops r b i = (m.k, m.v) := by
  obtain ⟨o, h1, h2⟩ := h
  unfold entPair
  rw [h1]
  simp only [h2]
theorem map_of_ents0 {r : Regs} {b : Pa} : ∀ {is : List Nat} {ms : List ME}, All2 (EntOf ops r b) is ms → ms.map (fun m => (m.k, m.v)) = is.map (entPair ops r b)
  | _, _, .nil => rfl
  | _, _, .cons h0 ht => by
    simp only [List.map_cons, map_of_ents0 ht, entPair_of h0]
set_option maxHeartbeats 1000000 in
theorem lit_sound {rd : Option Nat} {w0 : Fr} {E : Env} {h : Heap} {w : World} {id : Nat} (hM : P.follows .mixedOrders = true) (hN : NamesOk P) (hcall : CallOk P call) (hbody : CallBody P call) {r : Regs} {a : Act} {order poss : List Nat} {n0 n1 : Nat} (hperm : permOk ops.size order poss = true)
    {Q : Exit → Act → World → Prop} (hp : PostR w0 E nt (Q .normal) Q (litRun P nt ops order poss n0 n1 (stepsD P nt ops (opsAt ops order)) call r h)) (k : RegRel E nt r a) (s : Sim w0 E h w) : (Code.region id ops true).wpIn (Wd rd) 0 P Q a w := by
  unfold litRun at hp
  cases hrun : (stepsD P nt ops (opsAt ops order)).run call r h with
  | fail => rw [hrun] at hp; exact hp.elim
  | pan _ _ _ _ _ => rw [hrun] at hp; exact hp.elim
  | ok es rr hh =>
  rw [hrun] at hp
  simp only at hp
  cases hmap : litMap ops order es n0 with
  | none => rw [hmap] at hp; exact hp.elim
  | some x =>
  obtain ⟨b, rP, A⟩ := x
  rw [hmap] at hp
  simp only at hp
  cases hblk : (heapAt es hh n0).get b <;> rw [hblk] at hp <;> try (exact False.elim hp)
  rename_i es0 c0
  cases es0 with
  | cons _ _ => exact False.elim hp
  | nil =>
  simp only at hp
  cases hms : insEnts ops rP b ((order.drop n0).take (n1 - n0)) with
  | none => rw [hms] at hp; exact hp.elim
  | some ms =>
  rw [hms] at hp
  simp only at hp
  cases hc : (litFine P ops poss n0 n1 A.t && (apartAll (keyEq P A.t) ms && (loadsFine P ops es (heapAt es hh n0) b call nt (order.take n0) 0 && eqV ((evC A.m).run rr) (.map b)))) with
  | false => rw [hc] at hp; exact hp.elim
  | true =>
  rw [hc] at hp
  simp only [cond_true] at hp
  simp only [Bool.and_eq_true] at hc
  obtain ⟨hlf, hap, hlo, hmv⟩ := hc
  have hmv := eqV_eq hmv
  obtain ⟨ho1, posLt0, ordAt0⟩ := permOk_spec hperm
  have hnd0 : order.Nodup := nodup_of_pos fun p i h => (posOf_at hperm h).1
  obtain ⟨e0, i0, o0, he0, hi0, hoi0, hA0, her0⟩ := litMap_spec hmap
  obtain ⟨qlen, -, -, -⟩ := stepsD_spec hrun
  have hlen : es.length = ops.size := by rw [qlen, opsAt_length, ho1]
  have hn0 : n0 < ops.size := by rw [← ho1]; exact (List.getElem?_eq_some_iff.1 hi0).1
  have fine := litFine_spec hlf
  generalize hpre : order.take n0 = pre at hlo
  generalize hins : (order.drop n0).take (n1 - n0) = ins at hms
  generalize hpost : (order.drop n0).drop (n1 - n0) = post
  have hord : order = pre ++ (ins ++ post) := by rw [← hpre, ← hins, ← hpost, List.take_append_drop, List.take_append_drop]
  have hprel : pre.length = n0 := by rw [← hpre, List.length_take]; omega
  have hn01 : n0 < n1 := by
    obtain ⟨hp0, _⟩ := posOf_at hperm hi0
    rcases Nat.lt_or_ge n0 n1 with h | h
    · exact h
    · exfalso
      obtain ⟨_, _, _, _, _, _, f3⟩ := fine i0 o0 hoi0
      obtain ⟨hx, _⟩ := f3 (by omega) (by omega)
      rw [(isIns_of (P := P) hA0).2.1] at hx
      cases hx
  have hinsl : ins.length = n1 - n0 ∨ post = [] := by
    rcases Nat.lt_or_ge (n1 - n0) (order.drop n0).length with h | h
    · left; rw [← hins, List.length_take]; omega
    · right; rw [← hpost]; exact List.drop_eq_nil_of_le h
  have atPre : ∀ q i, pre[q]? = some i → posOf poss i = q ∧ i < ops.size ∧ q < n0 := by
    intro q i h
    have hq := (List.getElem?_eq_some_iff.1 h).1
    obtain ⟨h1, h2⟩ := posOf_at hperm (p := q) (i := i) (by rw [hord, List.getElem?_append_left hq]; exact h)
    exact ⟨h1, h2, by omega⟩
  have atIns : ∀ q i, ins[q]? = some i → posOf poss i = n0 + q ∧ i < ops.size ∧ n0 + q < n1 := by
    intro q i h
    have hq := (List.getElem?_eq_some_iff.1 h).1
    obtain ⟨h1, h2⟩ := posOf_at hperm (p := n0 + q) (i := i) (by
      rw [hord, List.getElem?_append_right (by omega), hprel, Nat.add_sub_cancel_left, List.getElem?_append_left hq]; exact h)
    refine ⟨h1, h2, ?_⟩
    have : ins.length ≤ n1 - n0 := by rw [← hins, List.length_take]; omega
    omega
  have atPost : ∀ q i, post[q]? = some i → posOf poss i = n0 + ins.length + q ∧ i < ops.size ∧ ins.length = n1 - n0 := by
    intro q i h
    have hl : ins.length = n1 - n0 := by
      rcases hinsl with h' | h'
      · exact h'
      · rw [h'] at h; simp at h
    obtain ⟨h1, h2⟩ := posOf_at hperm (p := n0 + ins.length + q) (i := i) (by
      rw [hord, List.getElem?_append_right (by omega), List.getElem?_append_right (by omega), hprel, show n0 + ins.length + q - n0 - ins.length = q from by omega]; exact h)
    exact ⟨h1, h2, hl⟩
  have which : ∀ i, i < ops.size → (∃ q : Nat, pre[q]? = some i) ∨ (∃ q : Nat, ins[q]? = some i) ∨ ∃ q : Nat, post[q]? = some i := by
    intro i hi
    have hm : i ∈ order := List.mem_of_getElem? (posLt0 i hi).2
    rw [hord, List.mem_append, List.mem_append] at hm
    rcases hm with h | h | h
    · exact .inl (List.mem_iff_getElem?.1 h)
    · exact .inr (.inl (List.mem_iff_getElem?.1 h))
    · exact .inr (.inr (List.mem_iff_getElem?.1 h))
  have preF : ∀ i o, i ∈ pre → ops[i]? = some o → isIns o = false ∧ isChain P o = false ∧ (looks o.op = true → isEff P o.op = false → ∃ t x, o.op = .load t x) := by
    intro i o hi ho
    obtain ⟨q, hq⟩ := List.mem_iff_getElem?.1 hi
    obtain ⟨h1, h2, h3⟩ := atPre q i hq
    obtain ⟨_, _, _, _, f1, _, _⟩ := fine i o ho
    exact f1 (by omega)
  have insF : ∀ i, i ∈ ins → ∃ o A', ops[i]? = some o ∧ insArgs o = some A' ∧ A'.t = A.t := by
    intro i hi
    obtain ⟨q, hq⟩ := List.mem_iff_getElem?.1 hi
    obtain ⟨h1, h2, h3⟩ := atIns q i hq
    obtain ⟨_, _, _, _, _, f2, _⟩ := fine i _ (Array.getElem?_eq_getElem h2)
    obtain ⟨A', g1, g2⟩ := f2 (by omega) (by omega)
    exact ⟨_, A', Array.getElem?_eq_getElem h2, g1, g2⟩
  have postF : ∀ i o, i ∈ post → ops[i]? = some o → isEff P o.op = false ∧ looks o.op = false := by
    intro i o hi ho
    obtain ⟨q, hq⟩ := List.mem_iff_getElem?.1 hi
    obtain ⟨h1, h2, h3⟩ := atPost q i hq
    obtain ⟨_, _, _, _, _, _, f3⟩ := fine i o ho
    exact f3 (by omega) (by omega)
  have insAt : ∀ i, i < ops.size → (isInsAt ops i = true ↔ i ∈ ins) := by
    intro i hi
    have hio : ops[i]? = some ops[i] := Array.getElem?_eq_getElem hi
    constructor
    · intro h
      unfold isInsAt at h
      rw [hio] at h
      simp only at h
      rcases which i hi with ⟨q, hq⟩ | ⟨q, hq⟩ | ⟨q, hq⟩
      · rw [(preF i _ (List.mem_of_getElem? hq) hio).1] at h; cases h
      · exact List.mem_of_getElem? hq
      · have := (postF i _ (List.mem_of_getElem? hq) hio).1
        rw [(isIns_eff (P := P) h).1] at this
        cases this
    · intro h
      obtain ⟨o, A', g1, g2, _⟩ := insF i h
      unfold isInsAt
      rw [g1]
      exact (isIns_of (P := P) g2).1
  have hndI : ins.Nodup := by
    rw [hord] at hnd0
    exact (List.nodup_append.1 (List.nodup_append.1 hnd0).2.1).1
  have hrun2 := hrun
  rw [hord, opsAt_append, opsAt_append] at hrun2
  obtain ⟨es1, r1, h1, es23, hr1, hr23, hes⟩ := stepsD_append _ _ hrun2
  obtain ⟨es2, r2, h2, es3, hr2, hr3, hes23⟩ := stepsD_append _ _ hr23
  obtain ⟨l1, -, -, -⟩ := stepsD_spec hr1
  rw [opsAt_length, hprel] at l1
  obtain ⟨-, w1, w2, -⟩ := stepsD_spec hr23
  have hes0 : es23[0]? = some e0 := by
    rw [hes, List.getElem?_append_right (by omega), l1, Nat.sub_self] at he0
    exact he0
  have hrP : r1 = rP := by
    unfold regAt at w2
    rw [hes0] at w2
    exact w2.symm.trans her0
  have hhP : heapAt es hh n0 = h1 := by
    unfold heapAt at w1 ⊢
    rw [he0]
    rw [hes0] at w1
    exact w1
  subst hrP
  rw [hhP] at hblk hlo
  have hI : ∀ i ∈ ins, ∃ o A' m, ops[i]? = some o ∧ insArgs o = some A' ∧ (keyFitsT P A'.t = true ∧ keyEq P A'.t = keyEq P A.t) ∧ insEnt ops r1 b o = some m ∧ ∃ v H1 H2, (dopC P nt ops o).run call r1 H1 = .val v H2 := by
    intro i hi
    obtain ⟨o, A', g1, g2, g3⟩ := insF i hi
    obtain ⟨m, _, o', g4, g5⟩ := (insEnts_all hms).left i hi
    rw [g1] at g4; cases g4
    refine ⟨o, A', m, g1, g2, ⟨by rw [g3]; unfold litFine at hlf; rw [Bool.and_eq_true] at hlf; exact hlf.1, by rw [g3]⟩, g5, ins_facts (opsAt ops ins) (fun o2 ho2 => ?_) hr2 o ?_⟩
    · obtain ⟨q, hq⟩ := List.mem_iff_getElem?.1 ho2
      have hql : q < ins.length := by rw [← opsAt_length (ops := ops)]; exact (List.getElem?_eq_some_iff.1 hq).1
      obtain ⟨o3, A3, j1, j2, _⟩ := insF _ (List.getElem_mem hql)
      have := opsAt_get (List.getElem?_eq_getElem hql) j1
      rw [hq] at this; cases this
      exact (insArgs_eq j2).2.1
    · obtain ⟨q, hq⟩ := List.mem_iff_getElem?.1 hi
      exact List.mem_of_getElem? (opsAt_get hq g1)
  have hapart := apart_of (insEnts_all hms) hndI hap
  obtain ⟨esI, msI, cI, HI, gI1, gI2, gI3, gI4, _, gI5⟩ := ins_run hI hapart ins [] [] c0 h1 (fun i hi => hi) (fun i hi => by simp at hi) (by simpa using hndI) (fun m hm => by simp at hm) hblk
  rw [hr2] at gI1
  simp only [DR.ok.injEq] at gI1
  obtain ⟨-, hr12, hHI⟩ := gI1
  subst hr12 hHI
  obtain ⟨hh2, hquiet⟩ := quiet_run (opsAt ops post) (fun o2 ho2 => by
    obtain ⟨q, hq⟩ := List.mem_iff_getElem?.1 ho2
    have hql : q < post.length := by rw [← opsAt_length (ops := ops)]; exact (List.getElem?_eq_some_iff.1 hq).1
    obtain ⟨_, hjs, _⟩ := atPost q _ (List.getElem?_eq_getElem hql)
    have := opsAt_get (List.getElem?_eq_getElem hql) (Array.getElem?_eq_getElem hjs)
    rw [hq] at this; cases this
    exact postF _ _ (List.getElem_mem hql) (Array.getElem?_eq_getElem hjs)) hr3
  subst hh2
  refine wpIn_region_draw fun t => ?_
  simp only [Region.schedule, hM, Bool.true_or, if_true]
  have hon : ∀ i o, ops[i]? = some o → onFine i o = true := fun i o h => by obtain ⟨_, _, h2, _⟩ := fine i o h; exact h2
  have hnone : ∀ k, ¬ (Array.replicate ops.size false).getD k false = true := by
    intro k
    rw [getD_iff, Array.getElem?_replicate]
    split <;> simp
  obtain ⟨s1, s2, s3⟩ := go_spec (ops := ops) hon ops.size t (Array.replicate ops.size false) (by simp) (Nat.le_trans List.countP_le_length (by simp))
  change wpOpsIn (Wd rd) 0 P ops Q (Region.linearise.go .any ops ops.size t (Array.replicate ops.size false) []) a { w with drawn := w.drawn + 1 }
  generalize hS0 : Region.linearise.go .any ops ops.size t (Array.replicate ops.size false) [] = S0 at s1 s2 s3
  generalize hσ : S0.filter (isInsAt ops) = σ
  have memσ : ∀ k, k ∈ σ ↔ k ∈ ins := by
    intro k
    rw [← hσ, List.mem_filter]
    constructor
    · rintro ⟨g1, g2⟩
      exact (insAt k (s2 k g1).1).1 g2
    · intro g
      obtain ⟨q, hq⟩ := List.mem_iff_getElem?.1 g
      have hk := (atIns q k hq).2.1
      refine ⟨?_, (insAt k hk).2 g⟩
      rcases s3 k hk with h | h
      · exact absurd h (hnone k)
      · exact h
  have hndσ : σ.Nodup := by rw [← hσ]; exact s1.filter _
  have hpermσ : σ.Perm ins := (List.perm_ext_iff_of_nodup hndσ hndI).2 memσ
  have hσl : σ.length = ins.length := hpermσ.length_eq
  have hpo : (pre ++ (σ ++ post)).Perm order := by
    rw [hord]
    exact (hpermσ.append_right post).append_left pre
  have hndo : (pre ++ (σ ++ post)).Nodup := hpo.nodup_iff.2 hnd0
  have hlo2 : (pre ++ (σ ++ post)).length = ops.size := by rw [hpo.length_eq, ho1]
  have at3 := three_at hndo
  generalize hposs : (List.range ops.size).map (fun k => (pre ++ (σ ++ post)).idxOf k) = poss2
  have hpos2 : ∀ k, k < ops.size → posOf poss2 k = (pre ++ (σ ++ post)).idxOf k := by
    intro k hk
    rw [← hposs]
    unfold posOf
    rw [List.getElem?_map, List.getElem?_range hk]
    rfl
  have pPre : ∀ i, i < ops.size → i ∈ pre → posOf poss2 i = posOf poss i ∧ posOf poss i < n0 := by
    intro i hi hm
    obtain ⟨q, hq⟩ := List.mem_iff_getElem?.1 hm
    obtain ⟨g1, _, g3⟩ := atPre q i hq
    rw [hpos2 i hi, (at3 i q).1 hq, g1]
    exact ⟨rfl, g3⟩
  have pIns : ∀ i, i < ops.size → i ∈ ins → ∃ q : Nat, σ[q]? = some i ∧ posOf poss2 i = n0 + q ∧ q < ins.length ∧ n0 ≤ posOf poss i ∧ posOf poss i < n0 + ins.length := by
    intro i hi hm
    obtain ⟨q, hq⟩ := List.mem_iff_getElem?.1 ((memσ i).2 hm)
    obtain ⟨q', hq'⟩ := List.mem_iff_getElem?.1 hm
    obtain ⟨g1, _, g3⟩ := atIns q' i hq'
    have := (List.getElem?_eq_some_iff.1 hq).1
    have := (List.getElem?_eq_some_iff.1 hq').1
    exact ⟨q, hq, by rw [hpos2 i hi, (at3 i q).2.1 hq, hprel], by omega, by omega, by omega⟩
  have pPost : ∀ i, i < ops.size → i ∈ post → posOf poss2 i = posOf poss i ∧ n0 + ins.length ≤ posOf poss i := by
    intro i hi hm
    obtain ⟨q, hq⟩ := List.mem_iff_getElem?.1 hm
    obtain ⟨g1, _, _⟩ := atPost q i hq
    rw [hpos2 i hi, (at3 i q).2.2 hq, g1, hσl, hprel]
    exact ⟨rfl, by omega⟩
  have cls : ∀ i, i < ops.size → i ∈ pre ∨ i ∈ ins ∨ i ∈ post := by
    intro i hi
    rcases which i hi with ⟨q, hq⟩ | ⟨q, hq⟩ | ⟨q, hq⟩
    · exact .inl (List.mem_of_getElem? hq)
    · exact .inr (.inl (List.mem_of_getElem? hq))
    · exact .inr (.inr (List.mem_of_getElem? hq))
  obtain ⟨esS, msS, cS, HS, gS1, gS2, gS3, gS4, gS6, gS5⟩ := ins_run hI hapart σ [] [] c0 h1 (fun i hi => (memσ i).1 hi) (fun i hi => by simp at hi) (by simpa using hndσ) (fun m hm => by simp at hm) hblk
  obtain ⟨es3', hr3'⟩ := hquiet HS
  have hrunS := stepsD_join _ _ hr1 (stepsD_join _ _ gS1 hr3')
  rw [← opsAt_append, ← opsAt_append] at hrunS
  obtain ⟨lS, -, -, -⟩ := stepsD_spec gS1
  rw [opsAt_length, hσl] at lS
  obtain ⟨z1, z2, z3, z4⟩ := stepsD_spec hrunS
  rw [opsAt_length, hlo2] at z1
  have posLt2 : ∀ k, k < ops.size → posOf poss2 k < ops.size ∧ (pre ++ (σ ++ post))[posOf poss2 k]? = some k := by
    intro k hk
    have hm : k ∈ pre ++ (σ ++ post) := hpo.mem_iff.2 (List.mem_of_getElem? (posLt0 k hk).2)
    obtain ⟨q, hq⟩ := List.mem_iff_getElem?.1 hm
    have hqq := idx_of hndo hq
    rw [hpos2 k hk, hqq]
    have := (List.getElem?_eq_some_iff.1 hq).1
    exact ⟨by omega, hq⟩
  have ordAt2 : ∀ p, p < ops.size → ∃ i, i < ops.size ∧ posOf poss2 i = p := by
    intro p hp
    have hq : (pre ++ (σ ++ post))[p]? = some ((pre ++ (σ ++ post))[p]'(by omega)) := List.getElem?_eq_getElem _
    have hm : (pre ++ (σ ++ post))[p]'(by omega) ∈ order := hpo.mem_iff.1 (List.getElem_mem _)
    obtain ⟨q, hq2⟩ := List.mem_iff_getElem?.1 hm
    have hlt := (posOf_at hperm hq2).2
    exact ⟨_, hlt, by rw [hpos2 _ hlt]; exact idx_of hndo hq⟩
  have chainIns : ∀ j o, ops[j]? = some o → isChain P o = true → j ∈ ins := by
    intro j o ho hch
    rcases cls j (Array.getElem?_eq_some_iff.1 ho).1 with h | h | h
    · rw [(preF j o h ho).2.1] at hch; cases hch
    · exact h
    · unfold isChain at hch
      rw [(postF j o h ho).1] at hch
      cases hch
  have insDst : ∀ k ok, k ∈ ins → ops[k]? = some ok → ok.dst = none ∧ isIns ok = true := by
    intro k ok hk hok
    obtain ⟨o, A', g1, g2, _⟩ := insF k hk
    rw [hok] at g1; cases g1
    exact ⟨(insArgs_eq g2).2.1, (isIns_of (P := P) g2).1⟩
  have away : ∀ st, st = ops.size ∨ (∃ k, k < ops.size ∧ k ∈ ins ∧ st = posOf poss2 k) → ∀ c, b ≠ c → (heapAt (es1 ++ (esS ++ es3')) HS st).get c = h1.get c := by
    rintro st (rfl | ⟨k, hk, hki, rfl⟩) c hc
    · unfold heapAt
      rw [List.getElem?_eq_none (by omega)]
      exact gS3 c hc
    · obtain ⟨q, _, g2, g3, _⟩ := pIns k hk hki
      have hqs : q < esS.length := by omega
      unfold heapAt
      rw [g2, List.getElem?_append_right (by omega), l1, Nat.add_sub_cancel_left, List.getElem?_append_left hqs, List.getElem?_eq_getElem hqs]
      exact gS6 _ (List.getElem_mem hqs) c hc
  have C : Cert P nt ops (fun _ => call) (es1 ++ (esS ++ es3')) r h rr HS (levelStarts P poss2 0 ops.toList) (pre ++ (σ ++ post)) poss2 ops.size ops.size true := by
    refine ⟨z1, Nat.le_refl _, Nat.le_refl _, posLt2, ordAt2, z2, z3, ?_, ?_, ?_, ?_, ?_, ?_, fun h => absurd h (Nat.lt_irrefl _), fun h => absurd h (Nat.lt_irrefl _)⟩
    · intro i o ho _
      exact z4 _ o (opsAt_get (posLt2 i (Array.getElem?_eq_some_iff.1 ho).1).2 ho)
    · intro i o hio
      obtain ⟨mi, f1, f2, f3, _⟩ := fine i o hio
      refine ⟨mi, f1, f2, fun _ k ok hok _ => ?_⟩
      obtain ⟨mk, f4, f5⟩ := f3 k ok hok
      have hi : i < ops.size := (Array.getElem?_eq_some_iff.1 hio).1
      have hk : k < ops.size := (Array.getElem?_eq_some_iff.1 hok).1
      refine ⟨mk, f4, ?_, fun he hch hlt => ?_⟩
      · by_cases hki : k ∈ ins
        · unfold pairFine
          rw [(insDst k ok hki hok).1]
          simp
        · have hb : Nat.blt (posOf poss2 k) (posOf poss2 i) = Nat.blt (posOf poss k) (posOf poss i) := by
            rw [Bool.eq_iff_iff, Nat.blt_eq, Nat.blt_eq]
            rcases cls k hk with hc | hc | hc
            · obtain ⟨a1, a2⟩ := pPre k hk hc
              rcases cls i hi with hd | hd | hd
              · obtain ⟨b1, b2⟩ := pPre i hi hd; omega
              · obtain ⟨q, _, b2, b3, b4, b5⟩ := pIns i hi hd; omega
              · obtain ⟨b1, b2⟩ := pPost i hi hd; omega
            · exact absurd hc hki
            · obtain ⟨a1, a2⟩ := pPost k hk hc
              rcases cls i hi with hd | hd | hd
              · obtain ⟨b1, b2⟩ := pPre i hi hd; omega
              · obtain ⟨q, _, b2, b3, b4, b5⟩ := pIns i hi hd; omega
              · obtain ⟨b1, b2⟩ := pPost i hi hd; omega
          rw [hb]
          exact f5
      · have hki := chainIns k ok hok hch
        obtain ⟨qk, _, b2, b3, b4, b5⟩ := pIns k hk hki
        rcases cls i hi with hd | hd | hd
        · obtain ⟨a1, a2⟩ := pPre i hi hd; omega
        · exact .inr ⟨rfl, (insDst i o hd hio).2, (insDst k ok hki hok).2⟩
        · rw [(postF i o hd hio).1] at he; cases he
    · have := levelStarts_end (P := P) (poss := poss2) (l := ops.toList) (i := 0)
      simpa using this
    · intro j o g1 g2
      have := levelStarts_mem (P := P) (poss := poss2) (i := 0) (j := j) (l := ops.toList) (o := o) (by simpa using g1) g2
      simpa using this
    · intro st hst
      rcases levelStarts_spec hst with h | ⟨j, o, g1, g2, g3⟩
      · exact .inl (.inl (by simpa using h))
      · exact .inr ⟨j, o, by simpa using g1, g2, by simpa using g3⟩
    · intro j o hjo hl he _
      have hj : j < ops.size := (Array.getElem?_eq_some_iff.1 hjo).1
      have hjp : j ∈ pre := by
        rcases cls j hj with hd | hd | hd
        · exact hd
        · obtain ⟨o', A', g1, g2, _⟩ := insF j hd
          rw [hjo] at g1; cases g1
          rw [(isIns_of (P := P) g2).2.1] at he; cases he
        · rw [(postF j o hd hjo).2] at hl; cases hl
      obtain ⟨t', x', hop⟩ := (preF j o hjp hjo).2.2 hl he
      obtain ⟨q, hq⟩ := List.mem_iff_getElem?.1 hjp
      obtain ⟨a1, _, a3⟩ := atPre q j hq
      obtain ⟨e, c, off, h', y1, y2, y3, y4, y5⟩ := loadsFine_get hlo q j o t' x' hq hjo hop
      have hee : (es1 ++ (esS ++ es3'))[posOf poss2 j]? = some e := by
        rw [(pPre j hj hjp).1, a1, List.getElem?_append_left (by omega)]
        rw [Nat.zero_add, hes, List.getElem?_append_left (by omega)] at y1
        exact y1
      refine ⟨e, hee, fun st hst _ => ⟨call, _, ⟨hcall, hbody⟩, dop_load hop y4 y5 y2 _ (away st ?_ c fun h => y3 h.symm)⟩⟩
      rcases levelStarts_spec hst with h | ⟨k', o', g1, g2, g3⟩
      · exact .inl (by simpa using h)
      · have hok' : ops[k']? = some o' := by simpa using g1
        exact .inr ⟨k', (Array.getElem?_eq_some_iff.1 hok').1, chainIns k' o' hok' g2, by simpa using g3⟩
  have hdf : ∀ (E' : Env) (a' : Act), E.le E' → a'.defers = a.defers → ∀ (r' : Regs), T.get .bad dslot r' = T.get .bad dslot r → DRel E' (T.get .bad dslot r') a'.defers := fun E' a' he hd r' hr' => by rw [hr', hd]; exact k.defers.mono he
  have hdsl : T.get .bad dslot rr = T.get .bad dslot r := by
    have := C.dsl ops.size (Nat.le_refl _)
    have hnn : (es1 ++ (esS ++ es3'))[ops.size]? = none := List.getElem?_eq_none (by omega)
    unfold regAt at this
    rw [hnn] at this
    exact this
  have hheld : Holds w0 w0 (es1 ++ (esS ++ es3')) HS poss2 (Held ops (es1 ++ (esS ++ es3')) HS poss2 (Array.replicate ops.size false) 0) :=
    ⟨rfl, fun _ _ => rfl, fun k hk => (by obtain ⟨_, _, _, _, h0⟩ := hk; omega), fun k k' hk => (by obtain ⟨_, _, _, _, h0⟩ := hk; omega)⟩
  obtain ⟨s', F', g1, g2, g3, g4, g5, g6⟩ := C.advance ops.size 0 (by omega) (fun k o _ _ _ => hnone k) w0 hheld (E := E) (w := { w with drawn := w.drawn }) (by rw [C.h0]; exact s.same rfl rfl rfl rfl)
  rw [← hS0]
  refine lit_go (w0 := w0) hN (fun _ => hcall) (fun _ => hbody) C (E0 := E) (D := a.defers) (S0 := S0) (fun E' a' w' q1 q2 q3 q4 => ?_) (fun i k hi hk hlt a' b' hab => ?_) ops.size t _ [] a _ (by rw [hS0]; rfl) (fun k _ => ⟨fun h => absurd h (hnone k), fun h => by simp at h⟩) (Nat.le_trans List.countP_le_length (by simp)) ?_
  · refine hp E' a' w' q1 ⟨q2, hdf E' a' q1 q3 rr hdsl⟩ ?_
    have hrel := evC_sound q2 A.m
    rw [hmv] at hrel
    simp only [Rel] at hrel
    obtain ⟨p, hEp, _⟩ := hrel
    rw [gI4, ← gS4]
    refine q4.forget gS2 hEp ?_
    rw [List.nil_append, map_of_ents0 (insEnts_all hms), map_of_ents (fun i m h => entPair_of h) gS5]
    exact hpermσ.symm.map _
  · have hi2 : i < ops.size := by
      unfold isInsAt at hi
      cases ho : ops[i]? with
      | none => rw [ho] at hi; cases hi
      | some o => exact (Array.getElem?_eq_some_iff.1 ho).1
    have hk2 : k < ops.size := by
      unfold isInsAt at hk
      cases ho : ops[k]? with
      | none => rw [ho] at hk; cases hk
      | some o => exact (Array.getElem?_eq_some_iff.1 ho).1
    have hki := (insAt k hk2).1 hk
    have hσe : σ = a'.filter (isInsAt ops) ++ i :: b'.filter (isInsAt ops) := by rw [← hσ, hab, List.filter_append, List.filter_cons_of_pos hi]
    have hpi : posOf poss2 i = n0 + (a'.filter (isInsAt ops)).length := by
      rw [hpos2 i hi2, (at3 i (a'.filter (isInsAt ops)).length).2.1 (by rw [hσe, List.getElem?_append_right (Nat.le_refl _), Nat.sub_self]; rfl), hprel]
    obtain ⟨q, hq, hpk, _⟩ := pIns k hk2 hki
    have hql : q < (a'.filter (isInsAt ops)).length := by omega
    rw [hσe, List.getElem?_append_left hql] at hq
    exact (List.mem_filter.1 (List.mem_of_getElem? hq)).1
  · refine ⟨by simp, k.size, rfl, fun k' hk => absurd hk (hnone k'), fun k' o e hk => absurd hk (hnone k'), E, s', F', Env.le.refl E, g1, g3, fun k' o h1 h2 => ⟨fun h => absurd h (hnone k'), fun h => by have := g4 k' o h1 h2 (Nat.zero_le _); omega⟩,
      fun k' o _ _ h => absurd h (hnone k'), g5, ?_, fun t ht => .inr ⟨fun k' o hk => absurd hk (hnone k'), k.reg t ht⟩⟩
    exact g6.same rfl rfl rfl rfl
theorem drawC_sound {rd : Option Nat} {w0 : Fr} {E : Env} {h : Heap} {w : World} {id : Nat} (hM : P.follows .mixedOrders = true) (hN : NamesOk P) (hcall : CallOk P call) (hbody : CallBody P call) {r : Regs} {a : Act}
    {Q : Exit → Act → World → Prop} (hp : PostR w0 E nt (Q .normal) Q ((drawC P nt ops).run call r h)) (k : RegRel E nt r a) (s : Sim w0 E h w) : (Code.region id ops true).wpIn (Wd rd) 0 P Q a w := by
  unfold drawC at hp
  generalize orderOf P ops = order at hp
  generalize possFrom order 0 ops.toList = poss at hp
  unfold drawPos at hp
  cases hf : (permOk ops.size order poss && drawFine P ops poss) with
  | false =>
    rw [hf] at hp
    simp only [cond_false] at hp
    cases hf2 : (permOk ops.size order poss && tailFine P ops order poss) with
    | false =>
      rw [hf2] at hp
      simp only [cond_false] at hp
      cases hf3 : permOk ops.size order poss with
      | false => rw [hf3] at hp; exact hp.elim
      | true =>
        rw [hf3] at hp
        simp only [cond_true] at hp
        exact lit_sound hM hN hcall hbody hf3 hp k s
    | true =>
      rw [hf2] at hp
      simp only [cond_true] at hp
      simp only [Bool.and_eq_true] at hf2
      exact drawT_sound hM hN hcall hbody hf2.1 hf2.2 hp k s
  | true =>
    rw [hf] at hp
    simp only [cond_true] at hp
    simp only [Bool.and_eq_true] at hf
    obtain ⟨hperm, hfine⟩ := hf
    unfold permOk at hperm
    simp only [Bool.and_eq_true, Nat.beq_eq] at hperm
    obtain ⟨ho1, ho2, ho3, ho4⟩ := hperm
    have posLt : ∀ k, k < ops.size → posOf poss k < ops.size ∧ order[posOf poss k]? = some k := by
      intro k hk
      have hg : poss[k]? = some (posOf poss k) := by
        unfold posOf
        rw [List.getElem?_eq_getElem (by omega)]
        rfl
      have := permAt_get ho3 hg
      rw [Nat.zero_add] at this
      exact ⟨by have := (List.getElem?_eq_some_iff.1 this).1; omega, this⟩
    have ordAt : ∀ p, p < ops.size → ∃ i, i < ops.size ∧ posOf poss i = p := by
      intro p hp
      have hg : order[p]? = some (order[p]'(by omega)) := List.getElem?_eq_getElem (by omega)
      have := permAt_get ho4 hg
      rw [Nat.zero_add] at this
      refine ⟨order[p]'(by omega), by have := (List.getElem?_eq_some_iff.1 this).1; omega, ?_⟩
      unfold posOf
      rw [this]
      rfl
    have starts_mem : ∀ j o, ops[j]? = some o → isChain P o = true → posOf poss j ∈ levelStarts P poss 0 ops.toList := fun j o h1 h2 => by simpa using levelStarts_mem (poss := poss) (i := 0) (j := j) (l := ops.toList) (by simpa using h1) h2
    have starts_end : ops.size ∈ levelStarts P poss 0 ops.toList := by simpa using levelStarts_end (P := P) (poss := poss) (l := ops.toList) (i := 0)
    have starts_sts : ∀ N M, ∀ s ∈ levelStarts P poss 0 ops.toList, (s = ops.size ∨ (s = N ∧ M = N)) ∨ ∃ k o, ops[k]? = some o ∧ isChain P o = true ∧ s = posOf poss k := fun N M s hs => by
      rcases levelStarts_spec hs with h | ⟨j, o, h1, h2, h3⟩
      · exact .inl (.inl (by simpa using h))
      · exact .inr ⟨j, o, by simpa using h1, h2, by simpa using h3⟩
    have hfineAll : ∀ i o, ops[i]? = some o → ∃ mi, (masksFrom [] ops.toList)[i]? = some mi ∧ onFine i o = true ∧ (posOf poss i < ops.size →
        ∀ k ok, ops[k]? = some ok → posOf poss k < ops.size → ∃ mk, (masksFrom [] ops.toList)[k]? = some mk ∧ pairFine i mi (readsOf ops o) o.dst k mk ok (Nat.blt (posOf poss k) (posOf poss i)) = true ∧ (isEff P o.op = true → isChain P ok = true → posOf poss k < posOf poss i → bitB mi k = true ∨ (false = true ∧ isIns o = true ∧ isIns ok = true))) := by
      intro i o hi
      obtain ⟨mi, g1, g2, g3⟩ := drawFine_spec hfine i o hi
      exact ⟨mi, g1, g2, fun _ k ok hk _ => by
        obtain ⟨mk, y1, y2, y3⟩ := g3 k ok hk
        exact ⟨mk, y1, y2, fun a b c => .inl (y3 a b c)⟩⟩
    have main : ∀ (q : AskC),
        (∀ es hf' N, es.length = N → N ≤ ops.size → (∀ i o, ops[i]? = some o → posOf poss i < N → ∃ e, es[posOf poss i]? = some e ∧ (dopC P nt ops o).run call e.r e.h = .val e.v (heapAt es hf' (posOf poss i + 1))) →
          (N < ops.size → ∃ i0 o0, ops[i0]? = some o0 ∧ posOf poss i0 = N ∧ isChain P o0 = true) → q.run call es hf' = true → ∀ j o, ops[j]? = some o → looks o.op = true → isEff P o.op = false → posOf poss j < N → ∃ e, es[posOf poss j]? = some e ∧ ∀ s ∈ levelStarts P poss 0 ops.toList,
          mayStand P (masksFrom [] ops.toList) ops.toList poss j (((masksFrom [] ops.toList)[j]?).getD 0) s = true → ∃ h', (dopC P nt ops o).run call e.r (heapAt es hf' s) = .val e.v h') →
        PostR w0 E nt (Q .normal) Q (drawRun ops order poss (stepsD P nt ops (opsAt ops order)) q call r h) → (Code.region id ops true).wpIn (Wd rd) 0 P Q a w := by
      intro q hask hrun
      unfold drawRun at hrun
      cases hst : (stepsD P nt ops (opsAt ops order)).run call r h with
      | fail => rw [hst] at hrun; exact hrun.elim
      | ok es rr hh =>
        rw [hst] at hrun
        simp only at hrun
        cases hq : q.run call es hh with
        | false => rw [hq] at hrun; exact hrun.elim
        | true =>
          rw [hq] at hrun
          simp only [cond_true] at hrun
          obtain ⟨q1, q2, q3, q4⟩ := stepsD_spec hst
          have hlen : es.length = ops.size := by rw [q1, opsAt_length, ho1]
          have hstep : ∀ i o, ops[i]? = some o → posOf poss i < ops.size → ∃ e, es[posOf poss i]? = some e ∧ (dopC P nt ops o).run call e.r e.h = .val e.v (heapAt es hh (posOf poss i + 1)) ∧ regAt es rr (posOf poss i + 1) = (putC o.dst).run e.r e.v :=
            fun i o ho _ => q4 _ o (opsAt_get (posLt i (Array.getElem?_eq_some_iff.1 ho).1).2 ho)
          have C : Cert P nt ops (fun _ => call) es r h rr hh (levelStarts P poss 0 ops.toList) order poss ops.size ops.size false :=
            ⟨hlen, Nat.le_refl _, Nat.le_refl _, posLt, ordAt, q2, q3, hstep, hfineAll, starts_end, starts_mem, starts_sts _ _,
              fun j o h1 h2 h3 h4 => by
                obtain ⟨e, g1, g2⟩ := hask es hh _ hlen (Nat.le_refl _) (fun i o ho hi => by obtain ⟨e, z1, z2, _⟩ := hstep i o ho hi; exact ⟨e, z1, z2⟩) (fun h => by omega) hq j o h1 h2 h3 h4
                exact ⟨e, g1, fun s hs hm => by obtain ⟨h', g3⟩ := g2 s hs hm; exact ⟨_, h', ⟨hcall, hbody⟩, g3⟩⟩,
              fun h => absurd h (Nat.lt_irrefl _), fun h => absurd h (Nat.lt_irrefl _)⟩
          exact draw_fin hM hN hcall hbody k s C (fun _ => hrun) (fun _ _ _ _ _ _ _ h => absurd h (Nat.lt_irrefl _)) (fun h => absurd h (Nat.lt_irrefl _))
      | pan es rr hh v h' =>
        rw [hst] at hrun
        simp only at hrun
        cases hq : (panFine ops order poss es.length && q.run call es hh) with
        | false => rw [hq] at hrun; exact hrun.elim
        | true =>
          rw [hq] at hrun
          simp only [cond_true] at hrun
          simp only [Bool.and_eq_true] at hq
          obtain ⟨hpf, hq⟩ := hq
          obtain ⟨q2, q3, q4, o0, q5, q6, q7⟩ := stepsD_pan hst
          have hlt : es.length < ops.size := by
            have := (List.getElem?_eq_some_iff.1 q5).1
            rw [opsAt_length, ho1] at this
            exact this
          obtain ⟨i0, hi0, hpi⟩ := ordAt es.length hlt
          have hio : ops[i0]? = some ops[i0] := Array.getElem?_eq_getElem hi0
          have hord := (posLt i0 hi0).2
          rw [hpi] at hord
          have ho0 : o0 = ops[i0] := by
            have := opsAt_get hord hio
            rw [q5] at this
            cases this
            rfl
          subst ho0
          unfold panFine at hpf
          rw [hord] at hpf
          simp only at hpf
          obtain ⟨m0, hm0, _⟩ := zipAll_get hpf i0 ops[i0] (by simp)
          have hzip : ∀ k ok, ops[k]? = some ok → ∃ mk, (masksFrom [] ops.toList)[k]? = some mk ∧ (es.length < posOf poss k → bitB mk i0 = true) ∧ (isAlloc ok = true → posOf poss k < es.length → bitB m0 k = true) := by
            intro k ok hk
            obtain ⟨mk, z1, z2⟩ := zipAll_get hpf k ok (by simpa using hk)
            simp only [Nat.zero_add, Bool.and_eq_true] at z2
            refine ⟨mk, z1, fun hg => ?_, fun ha hl => ?_⟩
            · have := z2.1
              rw [show Nat.blt es.length (posOf poss k) = true from by rw [Nat.blt_eq]; exact hg] at this
              exact this
            · have := z2.2
              rw [ha, show Nat.blt (posOf poss k) es.length = true from by rw [Nat.blt_eq]; exact hl, hm0] at this
              exact this
          have hchain : isChain P ops[i0] = true := by
            obtain ⟨c1, c2⟩ := mayPan_chain (P := P) q6
            unfold isChain; rw [c1, c2]; rfl
          have hstep : ∀ i o, ops[i]? = some o → posOf poss i < es.length → ∃ e, es[posOf poss i]? = some e ∧ (dopC P nt ops o).run call e.r e.h = .val e.v (heapAt es hh (posOf poss i + 1)) ∧ regAt es rr (posOf poss i + 1) = (putC o.dst).run e.r e.v :=
            fun i o ho hl => q4 _ o hl (opsAt_get (posLt i (Array.getElem?_eq_some_iff.1 ho).1).2 ho)
          have C : Cert P nt ops (fun _ => call) es r h rr hh (levelStarts P poss 0 ops.toList) order poss es.length ops.size false :=
            ⟨rfl, Nat.le_of_lt hlt, Nat.le_of_lt hlt, posLt, ordAt, q2, q3, hstep, hfineAll, by rw [← hpi]; exact starts_mem i0 _ hio hchain, starts_mem, starts_sts _ _,
              fun j o h1 h2 h3 h4 => by
                obtain ⟨e, g1, g2⟩ := hask es hh _ rfl (Nat.le_of_lt hlt) (fun i o ho hi => by obtain ⟨e, z1, z2, _⟩ := hstep i o ho hi; exact ⟨e, z1, z2⟩) (fun _ => ⟨i0, _, hio, hpi, hchain⟩) hq j o h1 h2 h3 h4
                exact ⟨e, g1, fun s hs hm => by obtain ⟨h', g3⟩ := g2 s hs hm; exact ⟨_, h', ⟨hcall, hbody⟩, g3⟩⟩,
              fun h => absurd h (Nat.lt_irrefl _), fun _ _ => ⟨i0, _, m0, hio, hpi, q6, hm0, fun k ok mk hk hg hmk => by
                obtain ⟨mk', z1, z2, _⟩ := hzip k ok hk
                rw [hmk] at z1; cases z1
                exact z2 hg, fun k ok hk ha hl => by
                obtain ⟨mk', z1, _, z3⟩ := hzip k ok hk
                exact z3 ha hl, v, h', q7⟩⟩
          refine draw_fin hM hN hcall hbody k s C (fun h => absurd h (by omega)) (fun E' a' w' x v1 h1 g1 _ _ g3 g4 g5 g6 => ?_) (fun h => absurd h (Nat.lt_irrefl _))
          obtain ⟨i1, o1, z1, z2, z3⟩ := g3
          have : i1 = i0 := C.posInj (Array.getElem?_eq_some_iff.1 z1).1 hi0 (by rw [z2, hpi])
          subst this
          rw [hio] at z1; cases z1
          rw [q7] at z3; cases z3
          exact hrun E' a' w' x g1 g4 g5 g6
    cases hl : anyEff P ops.toList with
    | false =>
      rw [hl] at hp
      have none : ∀ (l : List Oper), anyEff P l = false → ∀ (j : Nat) (o : Oper), l[j]? = some o → isEff P o.op = false := by
        intro l
        induction l with
        | nil => intro _ j o h; simp at h
        | cons x l ih =>
          intro h j o ho
          simp only [anyEff, Bool.or_eq_false_iff] at h
          cases j with
          | zero => simp only [List.getElem?_cons_zero, Option.some.injEq] at ho; subst ho; exact h.1
          | succ j => exact ih h.2 j o (by simpa using ho)
      refine main _ (fun es hf' N hlen hle hstep hstop _ j o ho hlo hq hjN => ?_) hp
      have hNs : N = ops.size := by
        rcases Nat.lt_or_ge N ops.size with hlt | hge
        · obtain ⟨i0, o0, z1, z2, z3⟩ := hstop hlt
          have := none _ hl i0 o0 (by simpa using z1)
          unfold isChain at z3
          rw [this] at z3; cases z3
        · omega
      obtain ⟨e, p1, p2⟩ := hstep j o ho hjN
      refine ⟨e, p1, fun s hs _ => ?_⟩
      have hs' : s = ops.size := by
        rcases levelStarts_spec hs with h | ⟨j', o', h1, h2, h3⟩
        · simpa using h
        · have := none _ hl j' o' h1
          unfold isChain at h2
          rw [this] at h2
          cases h2
      have flat : ∀ d, d ≤ ops.size → heapAt es hf' d = heapAt es hf' 0 := by
        intro d
        induction d with
        | zero => intro _; rfl
        | succ d ih =>
          intro hd
          obtain ⟨i, hi1, hi2⟩ := ordAt d (by omega)
          have hio : ops[i]? = some ops[i] := Array.getElem?_eq_getElem hi1
          obtain ⟨ed, w1, w2⟩ := hstep i ops[i] hio (by omega)
          rw [hi2] at w1 w2
          have hne : isEff P ops[i].op = false := none _ hl i _ (by simp)
          rw [(dop_quiet hne w2).1, ← ih (by omega)]
          simp [heapAt, w1]
      have : e.h = heapAt es hf' s := by rw [hs', flat ops.size (Nat.le_refl _), ← flat (posOf poss j) (by omega)]; simp [heapAt, p1]
      rw [← this]
      exact ⟨_, p2⟩
    | true =>
      rw [hl] at hp
      refine main _ (fun es hf' N hlen hle hstep hstop hqq j o ho hlo hq hjN => ?_) hp
      obtain ⟨e, p1, _⟩ := hstep j o ho hjN
      have := asksC_spec hqq j o (by simpa using ho) hlo hq e (by simpa using p1)
      exact ⟨e, p1, by simpa using this⟩
end
end Go.Proofs.YtigflhomnoledaaGreatDoor.Am
namespace Go.Proofs.YtigflhomnoledaaGreatDoor.Am
variable [Lay]
open Go Go.RowKit
def toExit : Ex → Exit
  | .normal => .normal
  | .exit id => .exit id
  | .ret => .ret
def PrimOk0 (C : Ctx) : Prop :=
  ∀ f p args h v h', C.prim f = some p → p.run args h = .val v h' → (∃ fn, C.P.funcs[f]? = some fn ∧ fn.body.isSome = true) ∧ ∀ (w0 : Fr) E w xs, RelL E args xs → Sim w0 E h w →
    Calls C.P f xs.toArray w fun e w' => ∃ E' x, e = .returned x ∧ E.le E' ∧ Rel E' v x ∧ Sim w0 E' h' w'
def ExtOk (C : Ctx) : Prop :=
  ∀ f p args h v h', C.ext f = some p → p.run args h = .val v h' → ∀ (w0 : Fr) E w xs, RelL E args xs → Sim w0 E h w →
    ∃ E' x w', (callFunc f xs.toArray).run C.P w = .ok (.value x) w' ∧ E.le E' ∧ Rel E' v x ∧ Sim w0 E' h' w'
def PrimOk (C : Ctx) : Prop := PrimOk0 C ∧ ExtOk C
theorem fenced_wd {P : Program} {rd : Option Nat} (m : Machine) : m.fenced P (Wd rd) := fenced_wide P m
def wpX (rd : Option Nat) (P : Program) (c : Code) (Q : Exit → Act → World → Prop) (a : Act) (w : World) : Prop :=
  match c with
  | .loop x => ∀ (b : Frame) (k : List Item) (cs : List Frame), b.roundOf = rd → ∃ e a' w', Q e a' w' ∧ ArrivesIn (Machine.fenced P (Wd rd)) P (lone (b.atR a (.code x :: .inLoop x :: k)) cs w) b k cs e a' w'
  | c => c.wpIn (Wd rd) 0 P Q a w
theorem wpX.wp {rd : Option Nat} {P : Program} {c : Code} {Q : Exit → Act → World → Prop} {a : Act} {w : World} (h : wpX rd P c Q a w) : c.wpIn (Wd rd) 0 P Q a w := by
  cases c with
  | loop x =>
    intro b k cs hro _ _
    obtain ⟨e, a', w', q, r⟩ := h b k cs hro
    exact ⟨e, a', w', q, .of_steps (.one (fenced_wd _) stepR_loop) r⟩
  | _ => exact h
def PostC (w0 : Fr) (E : Env) (nt : Nat) (Q : Exit → Act → World → Prop) : CR → Prop
  | .ok e r h => ∀ E' a' w', E.le E' → RegRel E' nt r a' → Sim w0 E' h w' → Q (toExit e) a' w'
  | .pan v r h => ∀ E' a' w' x, E.le E' → RegRel E' nt r a' → Rel E' v x → Sim w0 E' h w' → Q (.panic (panic1 x)) a' w'
  | .fail => False
theorem PostC.up {w0 : Fr} {E E' : Env} (h : E.le E') {nt : Nat} {Q : Exit → Act → World → Prop} {x : CR} (k : PostC w0 E nt Q x) : PostC w0 E' nt Q x := by
  cases x with
  | ok e r hh => exact fun E2 a w h2 => k E2 a w (h.trans h2)
  | pan v r hh => exact fun E2 a w x h2 => k E2 a w x (h.trans h2)
  | fail => exact k
def CodeOk (P : Program) (nt : Nat) (c : Code) (run : Regs → Heap → CR) : Prop :=
  ∀ (rd : Option Nat) (w0 : Fr) r h, (rd = none ∨ noMark c = true) → ∀ E a w, RegRel E nt r a → Sim w0 E h w → ∀ Q : Exit → Act → World → Prop, PostC w0 E nt Q (run r h) → wpX rd P c Q a w
def ExecOk (P : Program) (ex : ExecF) : Prop := ∀ nt c, CodeOk P nt c (ex nt c)
def resOne (tmps : Array Value) : ResultVar → Sem Value
  | .tmp t => pure (tmps.getD t undef)
  | .cell b t => do loadVar t (← asAddr (tmps.getD b undef))
theorem resC_sound {P : Program} {w0 : Fr} {E : Env} {nt : Nat} {r : Regs} {h : Heap} {a : Act} {w : World} (k : RegRel0 E nt r a) (s : Sim w0 E h w) : ∀ {l : List ResultVar} {vs : List V}, (resC P nt l).run r h = some vs →
    ∃ xs, RelL E vs xs ∧ (l.mapM (resOne a.tmps)).run P w = .ok xs w
  | [], vs, he => by
    simp only [resC, Option.some.injEq] at he
    subst he
    exact ⟨[], rfl, rfl⟩
  | .tmp t :: l, vs, he => by
    simp only [resC] at he
    cases hc : (Nat.ble t top && Nat.blt t nt) with
    | false => rw [hc] at he; cases he
    | true =>
      rw [hc] at he
      simp only [cond_true] at he
      simp only [Bool.and_eq_true, Nat.ble_eq] at hc
      cases hr : (resC P nt l).run r h with
      | none => rw [hr] at he; cases he
      | some us =>
        rw [hr] at he
        simp only [Option.some.injEq] at he
        subst he
        obtain ⟨xs, h1, h2⟩ := resC_sound k s hr
        refine ⟨_ :: xs, by simp only [RelL]; exact ⟨_, _, rfl, k.reg t hc.1, h1⟩, ?_⟩
        rw [List.mapM_cons, Sem.run_bind]
        simp only [resOne, Sem.run_pure, Result.andThen_ok, Sem.run_bind, h2]
  | .cell b t :: l, vs, he => by
    simp only [resC] at he
    cases hc : (Nat.ble b top && Nat.blt b nt) with
    | false => rw [hc] at he; cases he
    | true =>
      rw [hc] at he
      simp only [cond_true] at he
      simp only [Bool.and_eq_true, Nat.ble_eq] at hc
      cases hv : (loadC P t).run h (T.get .bad (pa b) r) with
      | none => rw [hv] at he; cases he
      | some v =>
        rw [hv] at he
        simp only at he
        cases hr : (resC P nt l).run r h with
        | none => rw [hr] at he; cases he
        | some us =>
          rw [hr] at he
          simp only [Option.some.injEq] at he
          subst he
          obtain ⟨xs, h1, h2⟩ := resC_sound k s hr
          obtain ⟨Y, _, hR, A, hA, hY⟩ := loadC_sound (P := P) s (k.reg b hc.1) hv
          refine ⟨Y :: xs, by simp only [RelL]; exact ⟨_, _, rfl, hR, h1⟩, ?_⟩
          rw [List.mapM_cons, Sem.run_bind]
          simp only [resOne, hA, asAddr, Sem.run_bind, Sem.run_pure, Result.andThen_ok, hY, h2]
theorem argRegs_get : ∀ (args : List V) (i : Nat) (t : Regs) (j : Nat), i + args.length ≤ top + 1 → j ≤ top →
    T.get .bad (pa j) (argRegs i args t) = if i ≤ j ∧ j < i + args.length then (args[j - i]?).getD .bad else T.get .bad (pa j) t
  | [], i, t, j, _, _ => by
    have : ¬ (i ≤ j ∧ j < i) := by omega
    simp [argRegs, this]
  | v :: vs, i, t, j, h, hj => by
    simp only [List.length_cons] at h ⊢
    rw [argRegs, argRegs_get vs _ _ _ (by omega) hj]
    by_cases h1 : i + 1 ≤ j ∧ j < i + 1 + vs.length
    · rw [if_pos h1, if_pos (by omega)]
      have : j - i = (j - (i + 1)) + 1 := by omega
      rw [this, List.getElem?_cons_succ]
    · rw [if_neg h1, T.get_put]
      by_cases h2 : j = i
      · subst h2; rw [if_pos rfl, if_pos (by omega)]; simp
      · rw [if_neg (fun e => h2 (pa_inj e).symm), if_neg (by omega)]
theorem oneOf_rel {E : Env} {vs : List V} {xs : List Value} (h : RelL E vs xs) (fn : Func) (a : Act) (P : Program) (w : World)
    (hr : (fn.results.toList.mapM (resOne a.tmps)).run P w = .ok xs w) : ∃ x, (results fn a.tmps).run P w = .ok x w ∧ Rel E (oneOf vs) x := by
  have hmap : (fn.results.mapM (resOne a.tmps)).run P w = .ok xs.toArray w := by
    rw [Array.mapM_eq_mapM_toList, Sem.run_map, hr]
    rfl
  have hdef : results fn a.tmps = (do
      let vs ← fn.results.mapM (resOne a.tmps)
      pure (if h : vs.size = 1 then vs[0] else .tuple vs)) := by
    unfold results
    have : (fun x => match x with
      | ResultVar.tmp t => (pure (a.tmps.getD t undef) : Sem Value)
      | ResultVar.cell b t => do loadVar t (← asAddr (a.tmps.getD b undef))) = resOne a.tmps := by
      funext x
      cases x <;> rfl
    rw [← this]
    rfl
  have hres : (results fn a.tmps).run P w = .ok (if h : xs.toArray.size = 1 then xs.toArray[0] else .tuple xs.toArray) w := by
    rw [hdef, Sem.run_bind, hmap]
    rfl
  refine ⟨_, hres, ?_⟩
  match vs, h with
  | [], h =>
    simp only [RelL] at h
    subst h
    simp only [oneOf, Rel]
    exact ⟨#[], rfl, rfl⟩
  | [v], h =>
    simp only [RelL] at h
    obtain ⟨y, ys, rfl, hy, rfl⟩ := h
    simpa [oneOf] using hy
  | v :: u :: vs, h =>
    have hl := h.length
    have hne : ¬ xs.toArray.size = 1 := by simp at hl ⊢; omega
    rw [dif_neg hne]
    simp only [oneOf, Rel]
    exact ⟨_, rfl, by simpa using h⟩
section
variable {C : Ctx}
theorem argRegs_dslot : ∀ (args : List V) (i : Nat) (t : Regs), i + args.length ≤ top + 1 → T.get .bad dslot (argRegs i args t) = T.get .bad dslot t
  | [], _, _, _ => rfl
  | v :: vs, i, t, h => by
    simp only [List.length_cons] at h
    simp only [argRegs]
    rw [argRegs_dslot vs (i + 1) _ (by omega), T.get_put, if_neg (pa_dslot (by omega))]
theorem entry_rel {E : Env} {nt : Nat} {args : List V} {xs : List Value} (hl : RelL E args xs) (hal : args.length ≤ nt) (hnt : nt ≤ top) :
    RegRel E nt (argRegs 0 args .e) { tmps := xs.toArray ++ Array.replicate (nt - xs.toArray.size) undef, defers := [] } := by
  have hlen := hl.length
  refine ⟨⟨by simp; omega, fun t ht => ?_⟩, ?_⟩
  · rw [argRegs_get _ _ _ _ (by omega) ht]
    by_cases hlt : t < args.length
    · rw [if_pos (by omega), Nat.sub_zero, List.getElem?_eq_getElem hlt]
      obtain ⟨y, hy, hR⟩ := hl.get t args[t] (List.getElem?_eq_getElem hlt)
      simp only [Option.getD_some]
      have : (xs.toArray ++ Array.replicate (nt - xs.toArray.size) undef).getD t undef = y := by
        rw [Array.getD_eq_getD_getElem?, Array.getElem?_append_left (by simp; omega)]
        simp [hy]
      rw [this]; exact hR
    · rw [if_neg (by omega)]
      simp [Rel]
  · rw [argRegs_dslot _ _ _ (by omega)]
    simp [DRel]
def UMode (E : Env) (u : Option V) (m : FrameMode) : Prop :=
  match u with
  | none => m = .returning
  | some v => ∃ x, Rel E v x ∧ m = .panicking (panic1 x)
theorem UMode.mono {E E' : Env} (h : E.le E') {u : Option V} {m : FrameMode} (k : UMode E u m) : UMode E' u m := by
  cases u with
  | none => exact k
  | some v => obtain ⟨x, h1, h2⟩ := k; exact ⟨x, Rel.mono h _ _ h1, h2⟩
theorem UMode.settle {E : Env} {u : Option V} {m : FrameMode} (k : UMode E u m) : settle m = m := by
  cases u with
  | none => simp only [UMode] at k; subst k; rfl
  | some v => obtain ⟨x, h1, rfl⟩ := k; rfl
theorem UMode.run {E : Env} {u : Option V} {m : FrameMode} (k : UMode E u m) : m ≠ .run := by
  cases u with
  | none => simp only [UMode] at k; subst k; simp
  | some v => obtain ⟨x, h1, rfl⟩ := k; simp
def DefOk (P : Program) (df : DefF) : Prop :=
  ∀ f args u h u' h', df f args u h = .go u' h' → (∃ fn, P.funcs[f]? = some fn ∧ fn.body.isSome = true) ∧
    ∀ (w0 : Fr) E w xs m, RelL E args xs → UMode E u m → Sim w0 E h w → CallsDIn (Wd none) 0 P f xs.toArray m w fun e m' w' => ∃ E' x, e = .returned x ∧ E.le E' ∧ UMode E' u' (settle m') ∧ Sim w0 E' h' w'
theorem Sim.gone {w0 : Fr} {E : Env} {h : Heap} {w w' : World} (s : Sim w0 E h w) {b : Pa} {p : Pl} (hown : (h.get b).own = true) (hp : E b = some p) (hB : w0.w.heap.size ≤ p.blk)
    (hlt : w.heap.size ≤ w'.heap.size) (hoth : ∀ j, j ≠ p.blk → w'.heap[j]? = w.heap[j]?) (hos : w'.os = w.os) (ht : w'.tape = w.tape) (ho : w'.output = w.output) : Sim w0 E (h.set b .dead) w' :=
  s.set hown hp hB hlt hoth hos ht ho (fun _ _ _ e => by cases e) trivial
theorem leave_sound {P : Program} {df : DefF} (hN : NamesOk P) (hdf : DefOk P df) {w0 : Fr} {fn : Func} {tmps : Array Value} {R : Ending → World → Prop} : ∀ (vs : List V) (ds : List Deferred) (E : Env) (u : Option V) (h : Heap) (w : World) (m : FrameMode) (u' : Option V) (h' : Heap),
    leaveL df vs u h = .go u' h' → DRelL E vs ds → UMode E u m → Sim w0 E h w → (∀ E' m' w', E.le E' → UMode E' u' m' → Sim w0 E' h' w' → LeavesInM (Wd none) 0 P fn tmps R [] m' w') → LeavesInM (Wd none) 0 P fn tmps R ds m w
  | [], ds, E, u, h, w, m, u', h', he, hd, hu, s, hR => by
    simp only [leaveL, LR.go.injEq] at he
    obtain ⟨rfl, rfl⟩ := he
    simp only [DRelL] at hd
    subst hd
    exact hR E m w (Env.le.refl E) hu s
  | v :: vs, ds, E, u, h, w, m, u', h', he, hd, hu, s, hR => by
    obtain ⟨d, ds', rfl, hd1, hd2⟩ := hd
    cases v with
    | func f args =>
      simp only [leaveL] at he
      cases hc : df f args u h with
      | fail => rw [hc] at he; cases he
      | go u1 h1 =>
        rw [hc] at he
        simp only at he
        obtain ⟨hf, cap, ht, hl⟩ := hd1
        obtain ⟨⟨fn', hfn, hb⟩, hcall⟩ := hdf _ _ _ _ _ _ hc
        refine ⟨hu.run, .inr ⟨fun h => by simp at h, _, cap, f, d.args ++ cap, ht, ?_, fun _ _ => trivial, ?_⟩⟩
        · rw [ht]
          simp only [invoke]
          exact run_callFunc hN hfn hb _ w
        · have e : d.args ++ cap = (d.args.toList ++ cap.toList).toArray := by apply Array.ext'; simp
          rw [e]
          refine CallsDIn.mono (hcall w0 E w _ m hl hu s) fun e m1 w1 hq => ?_
          obtain ⟨E1, x, rfl, q1, q2, q3⟩ := hq
          exact leave_sound hN hdf vs ds' E1 u1 h1 w1 (settle m1) u' h' he (hd2.mono q1) q2 q3 fun E2 m2 w2 p1 p2 p3 => hR E2 m2 w2 (q1.trans p1) p2 p3
    | ptr b off =>
      simp only [leaveL] at he
      cases hg : h.get b <;> rw [hg] at he <;> simp only at he <;> try (cases he; done)
      obtain ⟨p, hp, hdd⟩ := hd1
      have hb := s.at hp
      rw [hg] at hb
      obtain ⟨p', hp', hB, hh⟩ := hb
      rw [hp] at hp'; cases hp'
      have hplt := (Array.getElem?_eq_some_iff.1 hh).1
      let w1 : World := { w with heap := w.heap.setIfInBounds p.blk (.deferred none) }
      have htake : (Instr.takeDeferred p.blk).run P w = .ok [] w1 := by
        have hgo : (getObj p.blk).run P w = .ok (.deferred (some [])) w := by simp only [getObj, Sem.run, hh]
        have hso : (setObj p.blk (.deferred none)).run P w = .ok () w1 := by simp only [setObj, Sem.run, hh]; rfl
        simp only [Instr.takeDeferred, Sem.run_bind, hgo, Result.andThen_ok, hso, Sem.run_pure]
      have s1 : Sim w0 E (h.set b .dead) w1 := s.gone (by rw [hg]; rfl) hp hB (by simp [w1]) (fun j hj => by simp only [w1, Array.getElem?_setIfInBounds]; rw [if_neg (fun e => hj e.symm)]) rfl rfl rfl
      refine ⟨hu.run, .inl ⟨p.blk, w1, by rw [hdd], htake, ?_⟩⟩
      exact leave_sound hN hdf vs ds' E u _ w1 m u' h' he hd2 hu s1 hR
    | _ => simp [leaveL] at he
theorem res_sound {P : Program} {w0 : Fr} {E : Env} {fn : Func} {r : Regs} {h : Heap} {a : Act} {w : World} (k : RegRel0 E fn.ntmps r a) (s : Sim w0 E h w) {vs : List V} (hv : (resC P fn.ntmps fn.results.toList).run r h = some vs) :
    ∃ x, (results fn a.tmps).run P w = .ok x w ∧ Rel E (oneOf vs) x := by
  obtain ⟨ys, p1, p2⟩ := resC_sound (P := P) k s hv
  exact oneOf_rel p1 fn a P w p2
section
variable {C : Ctx}
theorem callBody (ex : ExecF) : CallBody C.P (callWith C ex) := by
  intro f args h v h' he
  trivial
def PostF (w0 : Fr) (E : Env) (R : Ending → World → Prop) : OR → Prop
  | .val v h' => ∀ E' x w', E.le E' → Rel E' v x → Sim w0 E' h' w' → R (.returned x) w'
  | .pan v h' => ∀ E' x w', E.le E' → Rel E' v x → Sim w0 E' h' w' → R (.panicked (panic1 x)) w'
  | .fail => False
theorem PostF.up {w0 : Fr} {E E' : Env} (h : E.le E') {R : Ending → World → Prop} {x : OR} (k : PostF w0 E R x) : PostF w0 E' R x := by
  cases x with
  | val v hh => exact fun E2 a w h2 => k E2 a w (h.trans h2)
  | pan v hh => exact fun E2 a w h2 => k E2 a w (h.trans h2)
  | fail => exact k
theorem finish_sound (hN : NamesOk C.P) {df : DefF} (hdf : DefOk C.P df) {w0 : Fr} {fn : Func} {E : Env} {r : Regs} {u : Option V} {h : Heap} {a : Act} {w : World} {m : FrameMode} {R : Ending → World → Prop}
    (k : RegRel E fn.ntmps r a) (hu : UMode E u m) (s : Sim w0 E h w)
    (hp : PostF w0 E R (finish (resC C.P fn.ntmps fn.results.toList) r (leaveL df (T.get .bad dslot r).list u h))) : LeavesInM (Wd none) 0 C.P fn a.tmps R a.defers m w := by
  cases hl : leaveL df (T.get .bad dslot r).list u h with
  | fail => rw [hl] at hp; exact hp.elim
  | go u' h' =>
    rw [hl] at hp
    refine leave_sound hN hdf _ a.defers E u h w m u' h' hl k.defers.list hu s fun E' m' w' q1 q2 q3 => ?_
    cases u' with
    | some v =>
      obtain ⟨x, hx, rfl⟩ := q2
      exact hp E' x w' q1 hx q3
    | none =>
      simp only [UMode] at q2
      subst q2
      simp only [finish] at hp
      cases hv : (resC C.P fn.ntmps fn.results.toList).run r h' with
      | none => rw [hv] at hp; exact hp.elim
      | some vs =>
        rw [hv] at hp
        obtain ⟨x, p1, p2⟩ := res_sound (P := C.P) (k.mono q1).toRegRel0 q3 hv
        exact ⟨x, p1, hp E' x w' q1 p2 q3⟩
theorem defEnd_ok {res : ResC} {u u' : Option V} {x : CR} {h' : Heap} (he : defEnd res u x = .go u' h') : ∃ e r vs, x = .ok e r h' ∧ (e = .normal ∨ e = .ret) ∧ T.get .bad dslot r = .bad ∧ res.run r h' = some vs ∧ u' = u := by
  unfold defEnd at he
  cases x with
  | fail => cases he
  | pan _ _ _ => cases he
  | ok e r h =>
    have main : (bif (T.get .bad dslot r).isBad then (match res.run r h with
      | some _ => LR.go u h
      | none => .fail) else .fail) = .go u' h' → (e = .normal ∨ e = .ret) → ∃ e' r' vs, CR.ok e r h = .ok e' r' h' ∧ (e' = .normal ∨ e' = .ret) ∧ T.get .bad dslot r' = .bad ∧ res.run r' h' = some vs ∧ u' = u := by
      intro he hor
      cases hb : (T.get .bad dslot r).isBad with
      | false => rw [hb] at he; cases he
      | true =>
        rw [hb] at he
        simp only [cond_true] at he
        have hbad : T.get .bad dslot r = .bad := by
          cases hg : T.get .bad dslot r <;> rw [hg] at hb <;> first
            | rfl
            | cases hb
        cases hv : res.run r h with
        | none => rw [hv] at he; cases he
        | some vs =>
          rw [hv] at he
          simp only [LR.go.injEq] at he
          obtain ⟨rfl, rfl⟩ := he
          exact ⟨e, r, vs, rfl, hor, hbad, hv, rfl⟩
    cases e with
    | normal => exact main he (.inl rfl)
    | ret => exact main he (.inr rfl)
    | exit id => cases he
theorem recShape_eq {c : Code} {s : RecS} (h : recShape c = some s) : ∃ id o1 o2 args types, c = .seq (.region id #[o1, o2] false) s.rest ∧ o1.dst = some s.d ∧ o1.op = .call ⟨.builtin .recover, args, types⟩ ∧ o1.guard = none ∧ o2.dst = some s.e ∧ o2.op = .assign s.x ∧ o2.guard = none := by
  unfold recShape at h
  split at h
  case h_2 => cases h
  rename_i id ops rest
  split at h
  case h_2 => cases h
  rename_i o1 o2 hl
  split at h
  case h_2 => cases h
  rename_i d args types e x h1 h2 h3 h4 h5 h6
  cases h
  have hops : ops = #[o1, o2] := by apply Array.ext'; simp [hl]
  subst hops
  exact ⟨id, o1, o2, _, _, rfl, h1, h2, h3, h4, h5, h6⟩
theorem defC_ok (hM : C.P.follows .mixedOrders = true) (hN : NamesOk C.P) {ex : ExecF} (hex : ExecOk C.P ex) : DefOk C.P (defC C.P ex) := by
  intro f args u h u' h' he
  unfold defC at he
  cases hf : C.P.funcs[f]? with
  | none => rw [hf] at he; cases he
  | some fn =>
    rw [hf] at he
    simp only at he
    cases hb : fn.body with
    | none => rw [hb] at he; cases he
    | some c =>
      rw [hb] at he
      simp only at he
      refine ⟨⟨fn, rfl, by rw [hb]; rfl⟩, fun w0 E w xs m hl hu s => ?_⟩
      cases hnt : Nat.ble fn.ntmps top with
      | false => rw [hnt] at he; cases he
      | true =>
        rw [hnt] at he
        simp only [cond_true] at he
        rw [Nat.ble_eq] at hnt
        unfold defRun at he
        cases hal : Nat.ble args.length fn.ntmps with
        | false => rw [hal] at he; cases he
        | true =>
          rw [hal] at he
          simp only [cond_true] at he
          rw [Nat.ble_eq] at hal
          have k := entry_rel hl hal hnt
          cases hr : recShape c with
          | none =>
            rw [hr] at he
            simp only at he
            obtain ⟨e, r, vs, hx, hor, hds, hv, rfl⟩ := defEnd_ok he
            refine CallsDIn.mono (callsDIn_of_wp (R := fun e w' => ∃ E' x, e = .returned x ∧ E.le E' ∧ Sim w0 E' h' w') hf hb trivial ?_) fun e' m' w' hq => ?_
            · refine (hex fn.ntmps c none w0 _ h (.inl rfl) E _ w k s _ ?_).wp
              rw [hx]
              intro E' a' w' q1 q2 q3
              have hd : a'.defers = [] := by have := q2.defers; rw [hds] at this; exact this
              obtain ⟨x, p1, p2⟩ := res_sound (P := C.P) q2.toRegRel0 q3 hv
              rcases hor with rfl | rfl <;> exact ⟨hd, x, p1, E', x, rfl, q1, q3⟩
            · obtain ⟨rfl, E', x, rfl, q1, q3⟩ := hq
              exact ⟨E', x, rfl, q1, by rw [hu.settle]; exact hu.mono q1, q3⟩
          | some sh =>
            rw [hr] at he
            simp only at he
            cases hfine : (dstFine fn.ntmps (some sh.d) && dstFine fn.ntmps (some sh.e)) with
            | false => rw [hfine] at he; cases he
            | true =>
              rw [hfine] at he
              simp only [cond_true] at he
              simp only [Bool.and_eq_true] at hfine
              obtain ⟨e, r, vs, hx, hor, hds, hv, rfl⟩ := defEnd_ok he
              obtain ⟨id, o1, o2, ra, rt, rfl, g1, g2, g3, g4, g5, g6⟩ := recShape_eq hr
              refine callsDIn_of_wpSIn hf hb trivial fun c₀ cs hc₀ => wpSIn_seq (wpSIn_region ?_)
              obtain ⟨X, hX, cs', hcs, m', hm', hsettle⟩ : ∃ X, Rel E (u.getD .nilIface) X ∧ ∃ cs', (match recoverD (c₀ :: cs) with
                  | some (v, cs'') => v = X ∧ cs'' = cs'
                  | none => X = .nilIface ∧ cs' = c₀ :: cs) ∧ ∃ m', cs' = { c₀ with mode := m' } :: cs ∧ settle m' = .returning := by
                cases u with
                | none =>
                  simp only [UMode] at hu
                  subst hu
                  refine ⟨.nilIface, rfl, c₀ :: cs, ?_, .returning, ?_, rfl⟩
                  · simp only [recoverD, hc₀]; exact ⟨trivial, trivial⟩
                  · rw [← hc₀]
                | some v =>
                  obtain ⟨x, hx, rfl⟩ := hu
                  refine ⟨x, hx, { c₀ with mode := .panicking [{ v := x, recovered := true }] } :: cs, ?_, .panicking [{ v := x, recovered := true }], rfl, rfl⟩
                  simp only [recoverD, hc₀]; exact ⟨trivial, trivial⟩
              have k1 := k.put hfine.1 hX
              have k2 := k1.put hfine.2 (evC_sound k1.toRegRel0 sh.x)
              rw [← g1] at k2
              rw [← g4] at k2
              have hrest := (hex fn.ntmps sh.rest none w0 _ h (.inl rfl) E _ w k2 s (fun e' a' w' => bodyPostS C.P fn c₀ cs (fun e m' w' => ∃ E' x, e = .returned x ∧ E.le E' ∧ UMode E' none (settle m') ∧ Sim w0 E' h' w') e' a' cs' w') (by
                have : recRegs sh u (argRegs 0 args .e) = (putC o2.dst).run ((putC o1.dst).run (argRegs 0 args .e) (u.getD .nilIface)) ((evC sh.x).run ((putC o1.dst).run (argRegs 0 args .e) (u.getD .nilIface))) := by rw [g1, g4]; rfl
                rw [← this, hx]
                intro E' a' w' q1 q2 q3
                have hd : a'.defers = [] := by have := q2.defers; rw [hds] at this; exact this
                obtain ⟨x, p1, p2⟩ := res_sound (P := C.P) q2.toRegRel0 q3 hv
                rcases hor with rfl | rfl <;> exact ⟨hd, m', hm', x, p1, E', x, rfl, q1, hsettle, q3⟩)).wp
              have hwrest := wpSIn_of_wpIn (F := Wd none) rfl hrest
              have hw1 : ∀ y, Region.wanted o1 y = true := fun y => by simp [Region.wanted, g3]
              have hw2 : ∀ y, Region.wanted o2 y = true := fun y => by simp [Region.wanted, g6]
              have hrun1 : ∀ (ρ : Operand → Value), (execOp ρ o1).run C.P w = .ok .recover w := fun ρ => by
                obtain ⟨dst, op, type, pos, after, guard⟩ := o1
                simp only at g2
                subst g2
                rfl
              have hrun2 : ∀ (ρ : Operand → Value), (execOp ρ o2).run C.P w = .ok (.value (ρ sh.x)) w := fun ρ => by
                obtain ⟨dst, op, type, pos, after, guard⟩ := o2
                simp only at g5
                subst g5
                rfl
              have hsz : (#[o1, o2] : Array Oper).size = 2 := rfl
              rw [hsz]
              simp only [List.range_succ, List.range_zero, List.nil_append, List.cons_append, wpOpsSIn]
              have e0 : (#[o1, o2] : Array Oper)[0]? = some o1 := rfl
              have e1 : (#[o1, o2] : Array Oper)[1]? = some o2 := rfl
              rw [e0]
              simp only [hw1, if_true, hrun1]
              refine ⟨fun _ _ => trivial, ?_⟩
              cases hrec : recoverD (c₀ :: cs) with
              | none =>
                rw [hrec] at hcs
                obtain ⟨hXn, hcc⟩ := hcs
                subst hXn hcc
                simp only [e1, hw2, if_true, hrun2]
                exact ⟨fun _ _ => trivial, hwrest⟩
              | some vc =>
                obtain ⟨v, cs1⟩ := vc
                rw [hrec] at hcs
                obtain ⟨rfl, rfl⟩ := hcs
                simp only [e1, hw2, if_true, hrun2]
                exact ⟨fun _ _ => trivial, hwrest⟩
end
end
end Go.Proofs.YtigflhomnoledaaGreatDoor.Am
namespace Go.Proofs.YtigflhomnoledaaGreatDoor.Am
variable [Lay]
open Go Go.RowKit
theorem splitLast_append : ∀ (xs : List V) (x : V), splitLast (xs ++ [x]) = some (xs, x)
  | [], x => rfl
  | [y], x => rfl
  | y :: z :: xs, x => by
    have := splitLast_append (z :: xs) x
    simp only [List.cons_append] at this ⊢
    simp only [splitLast, this]
theorem RegRel0.putAt {E : Env} {nt : Nat} {r : Regs} {t : Array Value} {ds : List Deferred} (k : RegRel0 E nt r ⟨t, ds⟩) {d : Nat} (hd : d < nt) (ht : d ≤ top) {v : V} {x : Value} (hv : Rel E v x) :
    RegRel0 E nt (T.put .bad v (pa d) r) ⟨t.setIfInBounds d x, ds⟩ := by
  refine ⟨by simp only [Array.size_setIfInBounds]; exact k.size, fun j hj => ?_⟩
  rw [T.get_put]
  have hsz := k.size
  simp only at hsz
  by_cases h : d = j
  · subst h
    rw [if_pos rfl]
    simp [Array.getD_eq_getD_getElem?, hsz, hd, hv]
  · rw [if_neg (fun e => h (pa_inj e))]
    have := k.reg j hj
    simpa [Array.getD_eq_getD_getElem?, Array.getElem?_setIfInBounds, h] using this
theorem putParams_list {E : Env} {nt : Nat} {ds : List Deferred} : ∀ (ps : List Nat) (vs : List V) (xs : List Value) (r : Regs) (t : Array Value), psFine nt ps = true → RelL E vs xs → RegRel0 E nt r ⟨t, ds⟩ →
    RegRel0 E nt (putParams ps vs r) ⟨(ps.zip xs).foldl (fun t (p : Nat × Value) => t.setIfInBounds p.1 p.2) t, ds⟩
  | [], vs, xs, r, t, _, _, k => by cases vs <;> exact k
  | p :: ps, [], xs, r, t, _, hl, k => by simp only [RelL] at hl; subst hl; exact k
  | p :: ps, v :: vs, xs, r, t, hp, hl, k => by
    obtain ⟨y, ys, rfl, hy, hl⟩ := hl
    simp only [psFine, List.all_cons, Bool.and_eq_true, Nat.blt_eq, Nat.ble_eq] at hp
    simp only [putParams, List.zip_cons_cons, List.foldl_cons]
    exact putParams_list ps vs ys _ _ hp.2 hl (k.putAt hp.1.1 hp.1.2 hy)
theorem putParams_rel {E : Env} {nt : Nat} {ds : List Deferred} {ps : Array Nat} {vs : List V} {xs : List Value} {r : Regs} {t : Array Value} (hp : psFine nt ps.toList = true) (hl : RelL E vs xs) (k : RegRel0 E nt r ⟨t, ds⟩) :
    RegRel0 E nt (putParams ps.toList vs r) ⟨(ps.zip xs.toArray).foldl (fun t (p : Nat × Value) => t.setIfInBounds p.1 p.2) t, ds⟩ := by
  rw [← Array.foldl_toList, Array.toList_zip]
  exact putParams_list ps.toList vs xs r t hp hl k
theorem RegRel0.atSlot {E : Env} {nt : Nat} {r : Regs} {a : Act} (k : RegRel0 E nt r a) (v : V) : RegRel0 E nt (T.put .bad v dslot r) a :=
  ⟨k.size, fun t ht => by rw [T.get_put, if_neg (fun e => pa_dslot ht e.symm)]; exact k.reg t ht⟩
section
variable {C : Ctx}
theorem fn_calls (hN : NamesOk C.P) (hM : C.P.follows .mixedOrders = true) {ex : ExecF} (hex : ExecOk C.P ex) {f : FuncId} {args : List V} {h : Heap} {w0 : Fr} {E : Env} {w : World} {xs : List Value} (hl : RelL E args xs) (s : Sim w0 E h w) {R : Ending → World → Prop}
    (hp : PostF w0 E R ((fnC C.P f).run ex args h)) : (∃ fn, C.P.funcs[f]? = some fn ∧ fn.body.isSome = true) ∧ Calls C.P f xs.toArray w R := by
  unfold fnC at hp
  cases hf : C.P.funcs[f]? with
  | none => rw [hf] at hp; exact hp.elim
  | some fn =>
    rw [hf] at hp
    simp only at hp
    cases hb : fn.body with
    | none => rw [hb] at hp; exact hp.elim
    | some c =>
      rw [hb] at hp
      simp only at hp
      refine ⟨⟨fn, rfl, by rw [hb]; rfl⟩, ?_⟩
      cases hnt : Nat.ble fn.ntmps top with
      | false => rw [hnt] at hp; exact hp.elim
      | true =>
        rw [hnt] at hp
        simp only [cond_true] at hp
        rw [Nat.ble_eq] at hnt
        unfold fnRun at hp
        cases hal : Nat.ble args.length fn.ntmps with
        | false => rw [hal] at hp; exact hp.elim
        | true =>
          rw [hal] at hp
          simp only [cond_true] at hp
          rw [Nat.ble_eq] at hal
          have k := entry_rel hl hal hnt
          have hdf := defC_ok (C := C) hM hN hex
          refine callsIn_wd.1 (callsIn_of_wp_marks (F := Wd none) (n := 0) hf hb trivial ?_)
          refine (hex fn.ntmps c none w0 _ h (.inl rfl) E _ w k s _ ?_).wp
          cases hr : ex fn.ntmps c (argRegs 0 args .e) h with
          | fail => rw [hr] at hp; exact hp
          | pan v r h1 =>
            rw [hr] at hp
            intro E' a' w' x q1 q2 q3 q4
            exact finish_sound (u := some v) hN hdf q2 ⟨x, q3, rfl⟩ q4 (PostF.up q1 hp)
          | ok e r h1 =>
            rw [hr] at hp
            intro E' a' w' q1 q2 q3
            have main : PostF w0 E R (finish (resC C.P fn.ntmps fn.results.toList) r (leaveL (defC C.P ex) (T.get .bad dslot r).list none h1)) → LeavesInM (Wd none) 0 C.P fn a'.tmps R a'.defers .returning w' := by
              intro hp
              exact finish_sound (u := none) hN hdf q2 rfl q3 (PostF.up q1 hp)
            cases e with
            | normal => exact main hp
            | ret => exact main hp
            | exit id => exact hp.elim
theorem fnP_calls (hN : NamesOk C.P) (hM : C.P.follows .mixedOrders = true) (hP : PrimOk C) {ex : ExecF} (hex : ExecOk C.P ex) {f : FuncId} {args : List V} {h : Heap} {w0 : Fr} {E : Env} {w : World} {xs : List Value} (hl : RelL E args xs) (s : Sim w0 E h w) {R : Ending → World → Prop}
    (hp : PostF w0 E R ((fnP C f).run ex args h)) : (∃ fn, C.P.funcs[f]? = some fn ∧ fn.body.isSome = true) ∧ Calls C.P f xs.toArray w R := by
  unfold fnP at hp
  cases hq : C.prim f with
  | none => rw [hq] at hp; exact fn_calls hN hM hex hl s hp
  | some p =>
    rw [hq] at hp
    simp only at hp
    cases hr : p.run args h with
    | fail => rw [hr] at hp; exact hp.elim
    | pan _ _ => rw [hr] at hp; exact hp.elim
    | val v h' =>
      rw [hr] at hp
      obtain ⟨h1, h2⟩ := hP.1 f p args h v h' hq hr
      refine ⟨h1, (h2 w0 E w xs hl s).mono fun e w' hq => ?_⟩
      obtain ⟨E', x, rfl, q1, q2, q3⟩ := hq
      exact hp E' x w' q1 q2 q3
theorem Sim.loop {P : Program} {w0 : Fr} {E : Env} {h : Heap} {w : World} (s : Sim w0 E h w) {b : Pa} {l l' : Lp} {p : Pl} {o o' : Loop} (hg : h.get b = .lp l) (hp : E b = some p) (hB : w0.w.heap.size ≤ p.blk) (hh : w.heap[p.blk]? = some (.loop o)) (hr : LpRel E l' o') :
    (setObj p.blk (.loop o')).run P w = .ok () { w with heap := w.heap.setIfInBounds p.blk (.loop o') } ∧ Sim w0 E (h.set b (.lp l')) { w with heap := w.heap.setIfInBounds p.blk (.loop o') } := by
  have hplt := (Array.getElem?_eq_some_iff.1 hh).1
  refine ⟨by simp only [setObj, Sem.run, hh], s.set (p := p) (by rw [hg]; rfl) hp hB (by simp) (fun j hj => ?_) rfl rfl rfl (fun _ _ _ e => by cases e) ?_⟩
  · simp only [Array.getElem?_setIfInBounds]
    rw [if_neg (fun e => hj e.symm)]
  · exact ⟨p, o', hp, hB, by simp [hplt], hr⟩
theorem run_getLoop {P : Program} {r : Nat} {w : World} {o : Loop} (hh : w.heap[r]? = some (.loop o)) : (Instr.getLoop r).run P w = .ok o w := by
  have : (getObj r).run P w = .ok (.loop o) w := by simp only [getObj, Sem.run, hh]
  simp only [Instr.getLoop, Sem.run_bind, this, Result.andThen_ok, Sem.run_pure]
theorem roundEnd_sound {w0 : Fr} {E : Env} {h h' : Heap} {w : World} {b : Pa} {p : Pl} {e : Ex} {v : V} {P : Program} {R : Ending → World → Prop} {a : Act} (s : Sim w0 E h w) (hp : E b = some p) (he : roundEnd b e h = .val v h')
    (hR : ∀ x w', Rel E v x → Sim w0 E h' w' → R (.returned x) w') : roundPost P p.blk R (toExit e) a w := by
  unfold roundEnd at he
  have hb := s.at hp
  cases hg : h.get b <;> rw [hg] at he hb <;> simp only at he <;> try (cases he; done)
  rename_i l
  obtain ⟨p', o, hp', hB, hh, hr⟩ := hb
  rw [hp] at hp'; cases hp'
  have hgl := run_getLoop (P := P) hh
  obtain ⟨r1, r2, r3, r4, r5, r6, r7, r8⟩ := hr
  cases e with
  | normal =>
    simp only [OR.val.injEq] at he
    obtain ⟨rfl, rfl⟩ := he
    obtain ⟨h1, h2⟩ := s.loop (P := P) (l' := ⟨0, none, l.d, l.nt, l.r, l.ps, l.assign, l.body⟩) (o' := { o with state := .ready, pending := none }) hg hp hB hh ⟨rfl, rfl, r3, r4, r5, r6, r7, r8⟩
    refine ⟨.bool true, _, ?_, hR _ _ rfl h2⟩
    simp only [Instr.endRound, Sem.run_bind, hgl, Result.andThen_ok, Option.isNone_none, if_true, h1, Sem.run_pure]
  | ret =>
    simp only [OR.val.injEq] at he
    obtain ⟨rfl, rfl⟩ := he
    obtain ⟨h1, h2⟩ := s.loop (P := P) (l' := ⟨2, some .ret, l.d, l.nt, l.r, l.ps, l.assign, l.body⟩) (o' := { o with state := .done, pending := some .ret }) hg hp hB hh ⟨rfl, rfl, r3, r4, r5, r6, r7, r8⟩
    refine ⟨.bool false, _, ?_, hR _ _ rfl h2⟩
    simp only [Instr.endRound, Sem.run_bind, hgl, Result.andThen_ok, Option.isNone_some, Bool.false_eq_true, if_false, h1, Sem.run_pure]
  | exit id =>
    simp only [OR.val.injEq] at he
    obtain ⟨rfl, rfl⟩ := he
    obtain ⟨h1, h2⟩ := s.loop (P := P) (l' := ⟨2, some (.exit id), l.d, l.nt, l.r, l.ps, l.assign, l.body⟩) (o' := { o with state := .done, pending := some (.exit id) }) hg hp hB hh ⟨rfl, rfl, r3, r4, r5, r6, r7, r8⟩
    refine ⟨.bool false, _, ?_, hR _ _ rfl h2⟩
    simp only [Instr.endRound, Sem.run_bind, hgl, Result.andThen_ok, Option.isNone_some, Bool.false_eq_true, if_false, h1, Sem.run_pure]
theorem round_sound {P : Program} {ex : ExecF} (hex : ExecOk P ex) {w0 : Fr} {E : Env} {h h' : Heap} {w : World} {args : List V} {xs : List Value} {b : Pa} {p : Pl} {v : V} (he : roundAt ex args b h = .val v h') (hl : RelL E args xs) (s : Sim w0 E h w) (hp : E b = some p) :
    ∃ f tmps assign body, (Instr.yield p.blk xs.toArray).run P w = .ok (.round p.blk f tmps assign body) w ∧
      RoundIn (Wd none) 0 P p.blk f tmps assign body w fun e w' => ∃ E' x, e = .returned x ∧ E.le E' ∧ Rel E' v x ∧ Sim w0 E' h' w' := by
  unfold roundAt at he
  have hb := s.at hp
  cases hg : h.get b <;> rw [hg] at he hb <;> simp only at he <;> try (cases he; done)
  rename_i l
  obtain ⟨p', o, hp', hB, hh, hr⟩ := hb
  rw [hp] at hp'; cases hp'
  obtain ⟨r1, r2, r3, r4, r5, r6, r7, r8⟩ := hr
  obtain ⟨hc, he⟩ := cond_val he
  simp only [Bool.and_eq_true, Nat.beq_eq] at hc
  obtain ⟨c1, c2, c3, c4⟩ := hc
  have hlen := hl.length
  have hps : o.params.size = xs.length := by rw [← Array.length_toList, r3, hlen, c1]
  refine ⟨o.fn, (o.params.zip xs.toArray).foldl (fun tmps (t, a) => tmps.setIfInBounds t a) o.tmps, o.assign, o.body, ?_, ?_⟩
  · simp only [Instr.yield, Sem.run_bind, run_getLoop hh, Result.andThen_ok]
    rw [if_neg (by simp [hps])]
    rfl
  · rw [r4, r5]
    refine roundIn_of_wpIn (F := Wd none) trivial ?_
    have k0 : RegRel0 E l.nt l.r ⟨o.tmps, []⟩ := ⟨r6, r7⟩
    rw [← r3] at c2 he
    have k1 := (putParams_rel c2 hl k0).atSlot .bad
    have k : RegRel E l.nt (T.put .bad .bad dslot (putParams o.params.toList args l.r)) ⟨(o.params.zip xs.toArray).foldl (fun t (p : Nat × Value) => t.setIfInBounds p.1 p.2) o.tmps, []⟩ := ⟨k1, by rw [T.get_put, if_pos rfl]; simp [DRel]⟩
    have hwp := hex l.nt l.assign (some p.blk) w0 _ h (.inr c3) E _ w k s (Exit.then (fun a₁ w₁ => ∃ w₂, (Instr.beginRound p.blk).run P w₁ = .ok () w₂ ∧
      l.body.wpIn (Wd (some p.blk)) 0 P (roundPost P p.blk fun e w' => ∃ E' x, e = .returned x ∧ E.le E' ∧ Rel E' v x ∧ Sim w0 E' h' w') a₁ w₂) (fun _ _ _ => False))
    refine (hwp ?_).wp
    cases hx : ex l.nt l.assign (T.put .bad .bad dslot (putParams o.params.toList args l.r)) h with
    | fail => rw [hx] at he; cases he
    | pan _ _ _ => rw [hx] at he; cases he
    | ok e r1' h1 =>
      rw [hx] at he
      cases e <;> simp only at he <;> try (cases he; done)
      intro E1 a1 w1 q1 q2 q3
      unfold roundBody at he
      have hp1 := q1 _ _ hp
      have hb1 := q3.at hp1
      cases hg1 : h1.get b <;> rw [hg1] at he hb1 <;> simp only at he <;> try (cases he; done)
      rename_i l1
      obtain ⟨p1, o1, hp1', hB1, hh1, hr1⟩ := hb1
      rw [hp1] at hp1'; cases hp1'
      obtain ⟨hst, he⟩ := cond_val he
      rw [Nat.beq_eq] at hst
      obtain ⟨t1, t2, t3, t4, t5, t6, t7, t8⟩ := hr1
      obtain ⟨g1, g2⟩ := q3.loop (P := P) (l' := ⟨1, l1.pend, l1.d, l1.nt, l1.r, l1.ps, l1.assign, l1.body⟩) (o' := { o1 with state := .busy }) hg1 hp1 hB1 hh1 ⟨rfl, t2, t3, t4, t5, t6, t7, t8⟩
      refine ⟨{ w1 with heap := w1.heap.setIfInBounds p.blk (.loop { o1 with state := .busy }) }, ?_, ?_⟩
      · have hready : o1.state = .ready := by rw [t1, hst]; rfl
        simp only [Instr.beginRound, Sem.run_bind, run_getLoop hh1, Result.andThen_ok, g1, hready, Sem.run_pure]
      · refine (hex l.nt l.body (some p.blk) w0 _ _ (.inr c4) E1 _ _ q2 g2 _ ?_).wp
        cases hx2 : ex l.nt l.body r1' (h1.set b (.lp ⟨1, l1.pend, l1.d, l1.nt, l1.r, l1.ps, l1.assign, l1.body⟩)) with
        | fail => rw [hx2] at he; cases he
        | pan _ _ _ => rw [hx2] at he; cases he
        | ok e2 r2' h2 =>
          rw [hx2] at he
          simp only at he
          intro E2 a2 w2 z1 z2 z3
          exact roundEnd_sound z3 (z1 _ _ hp1) he fun x w' y1 y2 => ⟨E2, x, rfl, q1.trans z1, y1, y2⟩
theorem callOk (hM : C.P.follows .mixedOrders = true) (hN : NamesOk C.P) (hP : PrimOk C) {ex : ExecF} (hex : ExecOk C.P ex) : CallOk C.P (callWith C ex) where
  fn := by
    intro w0 f args h v h' hf he E w xs hl s
    unfold callWith at he
    rw [cond_beq, if_neg hf] at he
    cases hx : C.ext f with
    | some p =>
      rw [hx] at he
      simp only at he
      cases hr : p.run args h with
      | fail => rw [hr] at he; cases he
      | pan _ _ => rw [hr] at he; cases he
      | val v1 h1 =>
        rw [hr] at he
        simp only [OR.noPan, OR.val.injEq] at he
        obtain ⟨rfl, rfl⟩ := he
        exact .inr (hP.2 f p args h _ _ hx hr w0 E w xs hl s)
    | none =>
    rw [hx] at he
    simp only at he
    exact .inl (fnP_calls hN hM hP hex hl s (by rw [he]; exact fun E' x w' q1 q2 q3 => ⟨E', x, rfl, q1, q2, q3⟩))
  pan := by
    intro w0 f args h v h' hf he E w xs hl s
    unfold callWith at he
    rw [cond_beq, if_neg hf] at he
    cases hx : C.ext f with
    | some p =>
      rw [hx] at he
      simp only at he
      cases hr : p.run args h <;> rw [hr] at he <;> cases he
    | none =>
    rw [hx] at he
    simp only at he
    exact fnP_calls hN hM hP hex hl s (by rw [he]; exact fun E' x w' q1 q2 q3 => ⟨E', x, rfl, q1, q2, q3⟩)
  yl := by
    intro w0 args b h v h' he E w xs p hl s hp
    unfold callWith at he
    rw [cond_beq, if_pos rfl] at he
    unfold roundRun at he
    rw [splitLast_append] at he
    exact round_sound hex he hl s hp
  yp := by
    intro args h v h' he
    unfold callWith at he
    rw [cond_beq, if_pos rfl] at he
    have e1 : ∀ b e h, roundEnd b e h ≠ .pan v h' := by
      intro b e h he
      unfold roundEnd at he
      split at he
      · cases e <;> cases he
      · cases he
    have e2 : ∀ nt c b r h, roundBody ex nt c b r h ≠ .pan v h' := by
      intro nt c b r h he
      unfold roundBody at he
      split at he
      case h_2 => cases he
      rename_i l hl
      cases hc : Nat.beq l.st 0 with
      | false => rw [hc] at he; cases he
      | true =>
        rw [hc] at he
        simp only [cond_true] at he
        split at he
        · exact e1 _ _ _ he
        · cases he
    have e3 : ∀ xs b h, roundAt ex xs b h ≠ .pan v h' := by
      intro xs b h he
      unfold roundAt at he
      split at he
      case h_2 => cases he
      rename_i l hl
      cases hc : (Nat.beq xs.length l.ps.length && (psFine l.nt l.ps && (noMark l.assign && noMark l.body))) with
      | false => rw [hc] at he; cases he
      | true =>
        rw [hc] at he
        simp only [cond_true] at he
        split at he
        case h_2 => cases he
        rename_i e r h1 _
        cases e <;> simp only at he <;> try (cases he; done)
        exact e2 _ _ _ _ _ he
    unfold roundRun at he
    split at he
    case h_2 => cases he
    split at he
    case h_2 => cases he
    exact e3 _ _ _ he
end
end Go.Proofs.YtigflhomnoledaaGreatDoor.Am
namespace Go.Proofs.YtigflhomnoledaaGreatDoor.Am
variable [Lay]
open Go Go.RowKit
section
variable {C : Ctx}
theorem exCode_wp {P : Program} {e : Ex} {Q : Exit → Act → World → Prop} {a : Act} {w : World} (h : Q (toExit e) a w) : (exCode e).wpIn (Wd none) 0 P Q a w := by
  cases e with
  | normal => exact wpIn_skip h
  | exit id => exact wpIn_exit h
  | ret => exact wpIn_ret h
theorem range_sound (hM : C.P.follows .mixedOrders = true) (hN : NamesOk C.P) (hP : PrimOk C) {ex : ExecF} (hex : ExecOk C.P ex) {f : Operand} {ps : Array Tmp} {assign body : Code} {nt : Nat} {w0 : Fr} {E : Env} {r : Regs} {h : Heap} {a : Act} {w : World} {Q : Exit → Act → World → Prop}
    (k : RegRel E nt r a) (s : Sim w0 E h w) (hp : PostC w0 E nt Q (rangeRun (fun g args h => (fnP C g).run ex args h) (evC f) ps.toList nt assign body r h)) : (Code.rangeFunc f ps assign body).wpIn (Wd none) 0 C.P Q a w := by
  unfold rangeRun at hp
  have hf := evC_sound k.toRegRel0 f
  generalize (evC f).run r = vf at hp hf
  cases vf <;> simp only at hp <;> try (exact hp.elim)
  rename_i g cs
  rw [cond_beq] at hp
  by_cases hg : g = yieldId
  · rw [if_pos hg] at hp; exact hp.elim
  · rw [if_neg hg] at hp
    simp only [Rel] at hf
    rcases hf with ⟨_, caps, hX, hl⟩ | ⟨hg', _⟩
    case inr => exact absurd hg' hg
    refine wpIn_rangeFunc fun fn _ => ?_
    have f0 := s.fresh h.next (Nat.le_refl _)
    obtain ⟨E1, hE1⟩ : ∃ E1, E1 = E.put (pa h.next) ⟨w.heap.size, 0, 0⟩ := ⟨_, rfl⟩
    obtain ⟨w1, hw1⟩ : ∃ w1 : World, w1 = { w with heap := w.heap.push (.deferred (some [])) } := ⟨_, rfl⟩
    have hput1 : E1 (pa h.next) = some ⟨w.heap.size, 0, 0⟩ := by rw [hE1]; unfold Env.put; rw [if_pos rfl]
    have s1 : Sim w0 E1 (h.new .dfr) w1 := by
      rw [hE1, hw1]
      refine s.alloc 0 ⟨⟨w.heap.size, 0, 0⟩, by unfold Env.put; rw [if_pos rfl], s.frame.size, by simp⟩
    have le1 : E.le E1 := by rw [hE1]; exact Env.le_put f0
    have hsz1 : w1.heap.size = w.heap.size + 1 := by rw [hw1]; simp
    obtain ⟨o, ho⟩ : ∃ o : Loop, o = { state := .ready, pending := none, fn, tmps := a.tmps, params := ps, assign, body, defers := w.heap.size } := ⟨_, rfl⟩
    obtain ⟨E2, hE2⟩ : ∃ E2, E2 = E1.put (pa (h.next + 1)) ⟨w1.heap.size, 0, 0⟩ := ⟨_, rfl⟩
    obtain ⟨w2, hw2⟩ : ∃ w2 : World, w2 = { w1 with heap := w1.heap.push (.loop o) } := ⟨_, rfl⟩
    have f1 : E1 (pa (h.next + 1)) = none := s1.fresh (h.next + 1) (Nat.le_refl _)
    have le2 : E1.le E2 := by rw [hE2]; exact Env.le_put f1
    have hput2 : E2 (pa (h.next + 1)) = some ⟨w1.heap.size, 0, 0⟩ := by rw [hE2]; unfold Env.put; rw [if_pos rfl]
    have lp : LpRel E2 ⟨0, none, pa h.next, nt, r, ps.toList, assign, body⟩ o := by
      subst ho
      exact ⟨rfl, rfl, rfl, rfl, rfl, k.size, fun t ht => Rel.mono (le1.trans le2) _ _ (k.reg t ht), _, le2 _ _ hput1, rfl⟩
    have s2 : Sim w0 E2 ((h.new .dfr).new (.lp ⟨0, none, pa h.next, nt, r, ps.toList, assign, body⟩)) w2 := by
      rw [hE2, hw2]
      refine s1.alloc 0 ⟨⟨w1.heap.size, 0, 0⟩, o, by show E1.put (pa (h.next + 1)) _ (pa (h.next + 1)) = _; unfold Env.put; rw [if_pos rfl], by show w0.w.heap.size ≤ w1.heap.size; rw [hsz1]; have := s.frame.size; omega, by simp, ?_⟩
      have := lp
      rw [hE2] at this
      exact this
    obtain ⟨lid, hlid⟩ : ∃ lid, lid = w1.heap.size := ⟨_, rfl⟩
    have hy : Rel E2 (.func yieldId [.ptr (pa (h.next + 1)) 0]) (.func (.yield lid) #[] #[]) := by
      simp only [Rel]
      exact .inr ⟨trivial, _, _, rfl, hput2, by rw [hlid]⟩
    have hargs : RelL E2 (.func yieldId [.ptr (pa (h.next + 1)) 0] :: cs) (.func (.yield lid) #[] #[] :: caps.toList) := by
      simp only [RelL]
      exact ⟨_, _, rfl, hy, RelL.mono (le1.trans le2) _ _ hl⟩
    have hcall := fnP_calls (C := C) hN hM hP hex (f := g) hargs s2 (R := rangePost (Wd none) 0 C.P lid Q { a with defers := [{ target := .collected w.heap.size, args := #[] }] ++ a.defers })
    cases hr : (fnP C g).run ex (.func yieldId [.ptr (pa (h.next + 1)) 0] :: cs) ((h.new .dfr).new (.lp ⟨0, none, pa h.next, nt, r, ps.toList, assign, body⟩)) with
    | fail => rw [hr] at hp; exact hp.elim
    | pan _ _ => rw [hr] at hp; exact hp.elim
    | val v h' =>
      rw [hr] at hp hcall
      simp only at hp
      obtain ⟨⟨fn', hfn, hb⟩, hc⟩ := hcall (by
        intro E' x w' q1 q2 q3
        simp only [rangePost]
        unfold rangeEnd at hp
        have hpl := q1 _ _ hput2
        have hb := q3.at hpl
        cases hgl : h'.get (pa (h.next + 1)) <;> rw [hgl] at hp hb <;> simp only at hp <;> try (exact hp.elim)
        rename_i l
        obtain ⟨p', o', hp', hB, hh, hlr⟩ := hb
        rw [hpl] at hp'; cases hp'
        obtain ⟨t1, t2, t3, t4, t5, t6, t7, t8⟩ := hlr
        rw [cond_beq] at hp
        by_cases hst : l.st = 1
        · rw [if_pos hst] at hp; exact hp.elim
        · rw [if_neg hst] at hp
          simp only at hh
          rw [← hlid] at hh
          have hnb : (o'.state == LoopState.busy) = false := by
            rw [t1]
            match hl0 : l.st with
            | 0 => rfl
            | 1 => exact absurd hl0 hst
            | n + 2 => rfl
          have hplt := (Array.getElem?_eq_some_iff.1 hh).1
          let w4 : World := { w' with heap := w'.heap.setIfInBounds lid (.loop { o' with state := .exhausted }) }
          have hend : (Instr.endLoop lid).run C.P w' = .ok o'.pending w4 := by
            have hso : (setObj lid (.loop { o' with state := .exhausted })).run C.P w' = .ok () w4 := by simp only [setObj, Sem.run, hh]; rfl
            simp only [Instr.endLoop, Sem.run_bind, run_getLoop hh, Result.andThen_ok, hnb, Bool.false_eq_true, if_false, hso, Sem.run_pure]
          have s4 : Sim w0 E' (h'.set (pa (h.next + 1)) .dead) w4 := by
            refine q3.gone (p := ⟨w1.heap.size, 0, 0⟩) (by rw [hgl]; rfl) hpl hB (by simp [w4]) (fun j hj => ?_) rfl rfl rfl
            simp only at hj
            simp only [w4, Array.getElem?_setIfInBounds]
            rw [if_neg (fun e => hj (by rw [← e, hlid]))]
          have k4 : RegRel E' nt (T.put .bad (.tuple (.ptr (pa h.next) 0 :: (T.get .bad dslot r).list)) dslot r) { a with defers := [{ target := .collected w.heap.size, args := #[] }] ++ a.defers } := by
            refine ⟨⟨k.size, fun t ht => ?_⟩, ?_⟩
            · rw [T.get_put, if_neg (fun e => pa_dslot ht e.symm)]
              exact Rel.mono (le1.trans (le2.trans q1)) _ _ (k.reg t ht)
            · rw [T.get_put, if_pos rfl]
              simp only [DRel, DRelL, List.cons_append, List.nil_append]
              exact ⟨_, _, rfl, ⟨_, q1 _ _ (le2 _ _ hput1), rfl⟩, (k.defers.mono (le1.trans (le2.trans q1))).list⟩
          refine ⟨o'.pending, w4, hend, ?_⟩
          rw [t2]
          cases hpe : l.pend with
          | none =>
            rw [hpe] at hp
            exact hp E' _ w4 (le1.trans (le2.trans q1)) k4 s4
          | some e =>
            rw [hpe] at hp
            exact exCode_wp (hp E' _ w4 (le1.trans (le2.trans q1)) k4 s4))
      refine ⟨lid, [{ target := .collected w.heap.size, args := #[] }], w2, { target := .fn (.func g) caps, args := #[] ++ #[.func (.yield lid) #[] #[]] }, w2, g, _, w2, ?_, ?_, fun _ _ => trivial, ?_, fun h => by simp at h, callsIn_wd.2 hc⟩
      · subst ho hw2 hw1
        have he := run_enterLoop_outer (P := C.P) (w := w) fn a.tmps ps assign body
        rw [World.alloc, World.alloc] at he
        simp only [Array.size_push] at hlid ⊢
        rw [hlid]
        exact he
      · simp only [resolve, hX, Deferred.ofValue, Sem.run_pure]
        simp [Act.eval]
      · simp only [invoke]
        have e : (#[] ++ #[Value.func (.yield lid) #[] #[]] : Array Value) ++ caps = (Value.func (.yield lid) #[] #[] :: caps.toList).toArray := by apply Array.ext'; simp
        rw [e]
        exact run_callFunc hN hfn hb _ w2
theorem stepR_scope {P : Program} {b : Frame} {a : Act} {k : List Item} {cs : List Frame} {w : World} {c : Code} :
    step P (lone (b.atR a (.code (.scope c) :: k)) cs w) = .next (lone (b.atR a (.code c :: .inScope c :: k)) cs w) :=
  step_lone_go (by simp [stepG, stepG.exec, Frame.atR])
theorem stepR_inScope {P : Program} {b : Frame} {a : Act} {k : List Item} {cs : List Frame} {w : World} {c : Code} :
    step P (lone (b.atR a (.inScope c :: k)) cs w) = .next (lone (b.atR a k) cs w) :=
  step_lone_go (by simp [stepG, stepG.exec, Frame.atR])
theorem scopeIn {P : Program} {rd : Option Nat} {c : Code} {Q : Exit → Act → World → Prop} {a : Act} {w : World} (h : c.wpIn (Wd rd) 0 P (Exit.noGoto Q) a w) : (Code.scope c).wpIn (Wd rd) 0 P Q a w := by
  intro b k cs hro hb hr
  obtain ⟨e, a₁, w₁, hq, harr⟩ := h b (.inScope c :: k) cs hro hb hr
  have hx : ∀ id, exitTo id (.inScope c :: k) = exitTo id k := fun id => by simp [exitTo]
  cases e with
  | normal => exact ⟨.normal, a₁, w₁, hq, .head (fenced_wd _) stepR_scope (StepsIn.trans harr (.one (fenced_wd _) stepR_inScope))⟩
  | exit id => exact ⟨.exit id, a₁, w₁, hq, fun k' hk => .head (fenced_wd _) stepR_scope (harr.1 k' (by rw [hx]; exact hk)), fun hr' hk => let ⟨k₁, h1, h2⟩ := harr.2 hr' (by rw [hx]; exact hk); ⟨k₁, h1, .head (fenced_wd _) stepR_scope h2⟩⟩
  | goto l => exact hq.elim
  | ret => exact ⟨_, a₁, w₁, hq, .of_steps (.one (fenced_wd _) stepR_scope) harr⟩
  | panic ch => exact ⟨_, a₁, w₁, hq, .of_steps (.one (fenced_wd _) stepR_scope) harr⟩
  | outgrown => exact ⟨_, a₁, w₁, hq, .of_steps (.one (fenced_wd _) stepR_scope) harr⟩
theorem codeC_sound (hM : C.P.follows .mixedOrders = true) (hN : NamesOk C.P) (hP : PrimOk C) {ex : ExecF} (hex : ExecOk C.P ex) (nt : Nat) : ∀ c : Code, CodeOk C.P nt c ((codeC C nt c).run ex) := by
  have hcall := callOk hM hN hP hex
  have hbody := callBody (C := C) ex
  intro c
  induction c with
  | skip =>
    intro rd w0 r h hr E a w k s Q hp
    exact wpIn_skip (hp E a w (Env.le.refl E) k s)
  | label l =>
    intro rd w0 r h hr E a w k s Q hp
    exact wpIn_label (hp E a w (Env.le.refl E) k s)
  | exit id =>
    intro rd w0 r h hr E a w k s Q hp
    exact wpIn_exit (hp E a w (Env.le.refl E) k s)
  | ret =>
    intro rd w0 r h hr E a w k s Q hp
    exact wpIn_ret (hp E a w (Env.le.refl E) k s)
  | region id ops draw =>
    intro rd w0 r h hr E a w k s Q hp
    have lift : ∀ x : RR, PostC w0 E nt Q (match x with | .ok r' h' => .ok .normal r' h' | .pan v r' h' => .pan v r' h' | .fail => .fail) → PostR w0 E nt (Q .normal) Q x := by
      intro x hx
      cases x <;> exact hx
    cases draw with
    | true =>
      simp only [codeC, cond_true, regRun] at hp
      exact drawC_sound hM hN hcall hbody (lift _ hp) k s
    | false =>
      simp only [codeC, cond_false, regRun] at hp
      refine wpIn_region ?_
      have := opsC_sound (rd := rd) (Q := Q) hN hcall hbody ops.toList 0 (fun j => by simp) (hr.imp (fun h => h) fun h => by simpa only [noMark, List.all_eq_true] using h) E r h a w (lift _ hp) k s
      rw [List.range_eq_range']
      simpa using this
  | seq x y ihx ihy =>
    intro rd w0 r h hr E a w k s Q hp
    simp only [codeC, seqCode] at hp
    have hrx : rd = none ∨ noMark x = true := hr.imp (fun h => h) fun h => by simp only [noMark, Bool.and_eq_true] at h; exact h.1
    have hry : rd = none ∨ noMark y = true := hr.imp (fun h => h) fun h => by simp only [noMark, Bool.and_eq_true] at h; exact h.2
    refine wpIn_seq (ihx rd w0 r h hrx E a w k s _ ?_).wp
    cases hx : (codeC C nt x).run ex r h with
    | fail => rw [hx] at hp; exact hp
    | pan v r1 h1 => rw [hx] at hp; exact hp
    | ok e1 r1 h1 =>
      rw [hx] at hp
      simp only at hp
      intro E' a' w' q1 q2 q3
      cases e1 with
      | normal => exact (ihy rd w0 r1 h1 hry E' a' w' q2 q3 Q (hp.up q1)).wp
      | exit id => exact hp E' a' w' q1 q2 q3
      | ret => exact hp E' a' w' q1 q2 q3
  | cond c x y ihx ihy =>
    intro rd w0 r h hr E a w k s Q hp
    simp only [codeC, condCode] at hp
    have hrx : rd = none ∨ noMark x = true := hr.imp (fun h => h) fun h => by simp only [noMark, Bool.and_eq_true] at h; exact h.1
    have hry : rd = none ∨ noMark y = true := hr.imp (fun h => h) fun h => by simp only [noMark, Bool.and_eq_true] at h; exact h.2
    have hc := evC_sound k.toRegRel0 c
    cases hv : (evC c).run r <;> rw [hv] at hp hc <;> simp only at hp <;> try (exact hp.elim)
    rename_i t
    simp only [Rel] at hc
    cases t with
    | true => exact wpIn_cond_true hc (ihx rd w0 r h hrx E a w k s Q hp).wp
    | false => exact wpIn_cond_false hc (ihy rd w0 r h hry E a w k s Q hp).wp
  | block id x ih =>
    intro rd w0 r h hr E a w k s Q hp
    simp only [codeC, blockCode] at hp
    refine wpIn_block (ih rd w0 r h (hr.imp (fun h => h) fun h => h) E a w k s _ ?_).wp
    cases hx : (codeC C nt x).run ex r h with
    | fail => rw [hx] at hp; exact hp
    | pan v r1 h1 => rw [hx] at hp; exact hp
    | ok e1 r1 h1 =>
      rw [hx] at hp
      simp only at hp
      intro E' a' w' q1 q2 q3
      cases e1 with
      | normal => exact hp E' a' w' q1 q2 q3
      | ret => exact hp E' a' w' q1 q2 q3
      | exit i =>
        simp only [cond_beq] at hp
        simp only [toExit, Exit.inBlock]
        by_cases hi : i = id
        · rw [if_pos hi] at hp ⊢; exact hp E' a' w' q1 q2 q3
        · rw [if_neg hi] at hp ⊢; exact hp E' a' w' q1 q2 q3
  | loop x ih =>
    intro rd w0 r h hr E a w k s Q hp
    simp only [codeC, loopCode] at hp
    have hrx : rd = none ∨ noMark x = true := hr.imp (fun h => h) fun h => h
    intro b kk cs hro
    cases hx : (codeC C nt x).run ex r h with
    | fail => rw [hx] at hp; exact hp.elim
    | pan v r1 h1 =>
      rw [hx] at hp
      have body := (ih rd w0 r h hrx E a w k s (fun e' a' w' => ∃ y, e' = .panic y ∧ Q e' a' w') (by rw [hx]; exact fun E' a' w' x q1 q2 q3 q4 => ⟨_, rfl, hp E' a' w' x q1 q2 q3 q4⟩)).wp b (.inLoop x :: kk) cs hro trivial (room_wd _)
      obtain ⟨e2, a2, w2, ⟨y, rfl, q⟩, harr⟩ := body
      exact ⟨_, a2, w2, q, .pass (x := .inLoop x) rfl (fun _ _ => .inl (by simp)) harr⟩
    | ok e1 r1 h1 =>
      rw [hx] at hp
      simp only at hp
      have body := (ih rd w0 r h hrx E a w k s
        (fun e' a' w' => e' = toExit e1 ∧ ∃ E', E.le E' ∧ RegRel E' nt r1 a' ∧ Sim w0 E' h1 w') (by rw [hx]; exact fun E' a' w' q1 q2 q3 => ⟨rfl, E', q1, q2, q3⟩)).wp b (.inLoop x :: kk) cs hro trivial (room_wd _)
      obtain ⟨e2, a2, w2, ⟨rfl, E2, q1, q2, q3⟩, harr⟩ := body
      cases e1 with
      | normal =>
        have next := hex nt (.loop x) rd w0 r1 h1 hr E2 a2 w2 q2 q3 Q (hp.up q1)
        obtain ⟨e3, a3, w3, p1, p2⟩ := next b kk cs hro
        exact ⟨e3, a3, w3, p1, .of_steps (StepsIn.trans harr (.one (fenced_wd _) stepR_inLoop)) p2⟩
      | exit id => exact ⟨.exit id, a2, w2, hp E2 a2 w2 q1 q2 q3, .pass (x := .inLoop x) rfl (fun _ _ => .inl (by simp)) harr⟩
      | ret => exact ⟨.ret, a2, w2, hp E2 a2 w2 q1 q2 q3, .pass (x := .inLoop x) rfl (fun _ _ => .inl (by simp)) harr⟩
  | scope x ih =>
    intro rd w0 r h hr E a w k s Q hp
    simp only [codeC] at hp
    refine scopeIn (ih rd w0 r h (hr.imp (fun h => h) fun h => h) E a w k s _ ?_).wp
    cases hx : (codeC C nt x).run ex r h with
    | fail => rw [hx] at hp; exact hp
    | pan v r1 h1 => rw [hx] at hp; exact hp
    | ok e1 r1 h1 =>
      rw [hx] at hp
      intro E' a' w' q1 q2 q3
      have := hp E' a' w' q1 q2 q3
      cases e1 <;> exact this
  | rangeFunc f ps x y _ _ =>
    intro rd w0 r h hr E a w k s Q hp
    rcases hr with rfl | hr
    case inr => cases hr
    simp only [codeC] at hp
    exact range_sound hM hN hP hex k s hp
  | goto l => intro rd w0 r h hr E a w k s Q hp; exact hp.elim
  | refuse why => intro rd w0 r h hr E a w k s Q hp; exact hp.elim
end
end Go.Proofs.YtigflhomnoledaaGreatDoor.Am
namespace Go.Proofs.YtigflhomnoledaaGreatDoor.Am
variable [Lay]
open Go Go.RowKit
section
variable {C : Ctx}
theorem exec_ok (hM : C.P.follows .mixedOrders = true) (hN : NamesOk C.P) (hP : PrimOk C) : ∀ n, ExecOk C.P (exec C n)
  | 0 => fun nt c rd w0 r h hr E a w k s Q hp => hp.elim
  | n + 1 => fun nt c => codeC_sound hM hN hP (exec_ok hM hN hP n) nt c
theorem callN_calls (hM : C.P.follows .mixedOrders = true) (hN : NamesOk C.P) (hP : PrimOk C) {n : Nat} {f : FuncId} {args : List V} {h h' : Heap} {v : V} (hf : Nat.beq f yieldId = false) (hx : C.ext f = none) (he : callN C n f args h = .val v h')
    {w0 : Fr} {E : Env} {w : World} {xs : List Value} (hl : RelL E args xs) (s : Sim w0 E h w) :
    (∃ fn, C.P.funcs[f]? = some fn ∧ fn.body.isSome = true) ∧ Calls C.P f xs.toArray w fun e w' => ∃ E' x, e = .returned x ∧ E.le E' ∧ Rel E' v x ∧ Sim w0 E' h' w' := by
  unfold callN callWith at he
  rw [hf, cond_false, hx] at he
  simp only at he
  exact fnP_calls hN hM hP (exec_ok hM hN hP n) hl s (by rw [he]; exact fun E' x w' q1 q2 q3 => ⟨E', x, rfl, q1, q2, q3⟩)
theorem sim_empty (w : World) (hw : Lay.ok w) : Sim ⟨w, fun _ => none⟩ (fun _ => none) Heap.empty w := by
  refine ⟨fun b _ => ?_, fun _ _ h => (by cases h), (fun b b' p p' _ _ h => by cases h), fun _ _ => rfl, Below.refl _ _, hw, (fun _ _ _ _ _ _ h => by cases h)⟩
  have : Heap.empty.get b = .dead := by simp [Heap.get, Heap.empty]
  rw [this]
  trivial
theorem truly_sound (hM : C.P.follows .mixedOrders = true) (hN : NamesOk C.P) {w : World} (hw : Lay.ok w) (hP : PrimOk C) {n : Nat} {f : FuncId} (hf : Nat.beq f yieldId = false) (hx : C.ext f = none) (h : truly C n f [] = true) :
    Calls C.P f #[] w fun e w' => e = .returned (.bool true) ∧ Below w.heap.size w w' := by
  unfold truly at h
  cases hc : callN C n f [] Heap.empty with
  | fail => rw [hc] at h; cases h
  | pan _ _ => rw [hc] at h; cases h
  | val v hh =>
    rw [hc] at h
    simp only at h
    cases v <;> simp only at h <;> try (cases h; done)
    subst h
    obtain ⟨_, hcl⟩ := callN_calls hM hN hP hf hx hc (w0 := ⟨w, fun _ => none⟩) (E := fun _ => none) (w := w) (xs := []) rfl (sim_empty w hw)
    refine hcl.mono fun e w' hq => ?_
    obtain ⟨E', x, rfl, _, q2, q3⟩ := hq
    simp only [Rel] at q2
    subst q2
    exact ⟨rfl, q3.frame⟩
end
end Go.Proofs.YtigflhomnoledaaGreatDoor.Am
namespace Go.Proofs.YtigflhomnoledaaGreatDoor.Am
variable [Lay]
open Go Go.RowKit Go.ChangeShapes Go.WideShapes
section
variable {H : Type} {enc : TypeId × Value → H} {P : Program}
end
end Go.Proofs.YtigflhomnoledaaGreatDoor.Am
namespace Go.Proofs.YtigflhomnoledaaGreatDoor.Am
variable [Lay]
open Go Go.RowKit
theorem Sim.below {w0 : Fr} {E : Env} {h : Heap} {w w' : World} (s : Sim w0 E h w) (hb : Below w.heap.size w w') : Sim w0 E h w' := by
  have hsz : w0.w.heap.size ≤ w.heap.size := s.frame.size
  have keep : ∀ (k : Nat) (o : Obj), w.heap[k]? = some o → w'.heap[k]? = some o := by
    intro k o hk
    rw [hb.block k, hk]
    by_cases hlt : k < w.heap.size
    · exact hlt
    · rw [Array.getElem?_eq_none (by omega)] at hk
      cases hk
  refine ⟨fun b hp => ?_, s.pen, s.inj, s.fresh, s.frame.trans (hb.mono hsz), s.laid, s.base⟩
  have := s.blk b hp
  cases hk : h.get b <;> rw [hk] at this <;> simp only [BlkRel] at this ⊢
  · obtain ⟨q1, p, c, el, fz, q2, q3, q4, q5⟩ := this
    exact ⟨q1, p, c, el, fz, q2, q3, keep _ _ q4, q5⟩
  · obtain ⟨q1, p, c, el, fz, q2, q3, q4, q5⟩ := this
    exact ⟨q1, p, c, el, fz, q2, q3, keep _ _ q4, q5⟩
  · obtain ⟨p, q1, q2, q3, q4⟩ := this
    exact ⟨p, q1, q2, q3, keep _ _ q4⟩
  · obtain ⟨p, a, q1, q2, q3, q4⟩ := this
    exact ⟨p, a, q1, q2, keep _ _ q3, q4⟩
  · obtain ⟨p, o, q1, q2, q3, q4⟩ := this
    exact ⟨p, o, q1, q2, keep _ _ q3, q4⟩
  · obtain ⟨p, q1, q2, q3⟩ := this
    exact ⟨p, q1, q2, keep _ _ q3⟩
  · obtain ⟨p, a, c, l, q1, q2, q3, q4⟩ := this
    exact ⟨p, a, c, l, q1, q2, keep _ _ q3, q4⟩
  · obtain ⟨p, m, a, q1, q2, q3, q4, q5⟩ := this
    exact ⟨p, m, a, q1, q2, q3, keep _ _ q4, q5⟩
theorem kit_prim {P : Program} {f : FuncId} {args : List V} {v : V} {h : Heap} (H : ∀ E xs w, Lay.ok w → RelL E args xs → Calls P f xs.toArray w fun e w' => ∃ x, e = .returned x ∧ Rel E v x ∧ Below w.heap.size w w')
    (w0 : Fr) (E : Env) (w : World) (xs : List Value) (hx : RelL E args xs) (s : Sim w0 E h w) : Calls P f xs.toArray w fun e w' => ∃ E' x, e = .returned x ∧ E.le E' ∧ Rel E' v x ∧ Sim w0 E' h w' := by
  refine (H E xs w (Lay.keep s.laid s.frame) hx).mono fun e w' q => ?_
  obtain ⟨x, rfl, hv, hb⟩ := q
  exact ⟨E, x, rfl, Env.le.refl E, hv, s.below hb⟩
theorem ext_run {P : Program} {f : FuncId} {fn : Func} {e : Array Value → Sem Value} (hf : P.funcs[f]? = some fn) (hn : (fn.name == "runtime.NumGoroutine") = false) (hb : fn.body.isNone = true) (h1 : Extern.findNext fn = none) (h2 : Extern.find fn = some e)
    {xs : Array Value} {x : Value} {w : World} (hr : (e xs).run P w = .ok x w) : (callFunc f xs).run P w = .ok (.value x) w := by
  simp only [callFunc, Sem.run_bind, run_program, Result.andThen_ok, hf]
  rw [if_neg (by rw [hn]; simp), if_pos hb]
  simp only [Sem.run_bind, h1, h2]
  have hm : (mark (.extern f)).run P w = .ok () w := rfl
  rw [hm]
  simp only [Result.andThen_ok, hr, Sem.run_pure]
def ixB (c : Nat) : List UInt8 → Nat → Int
  | [], _ => -1
  | b :: l, i => bif Nat.beq b.toNat c then .ofNat i else ixB c l (i + 1)
theorem ixB_eq (c : Nat) (hc : c < 256) : ∀ (l : List UInt8) (i : Nat), ixB c l i = if Lib.indexByte l c.toUInt8 = -1 then -1 else Lib.indexByte l c.toUInt8 + i
  | [], i => by simp [ixB, Lib.indexByte]
  | b :: l, i => by
    have hge := Lib.indexByte_ge l c.toUInt8
    have hbc : (b.toNat = c) ↔ (b == c.toUInt8) = true := by
      rw [beq_iff_eq, ← UInt8.toNat_inj]
      have : c.toUInt8.toNat = c := by
        show c % 256 = c
        omega
      rw [this]
    have e : Lib.indexByte (b :: l) c.toUInt8 = if (b == c.toUInt8) = true then 0 else if (Lib.indexByte l c.toUInt8 == -1) = true then -1 else Lib.indexByte l c.toUInt8 + 1 := rfl
    simp only [ixB, ixB_eq c hc l (i + 1), cond_beq]
    by_cases h : b.toNat = c
    · rw [if_pos (hbc.1 h)] at e
      rw [if_pos h, e]
      simp
    · rw [if_neg (fun e => h (hbc.2 e))] at e
      rw [if_neg h]
      by_cases h2 : Lib.indexByte l c.toUInt8 = -1
      · rw [h2] at e
        simp only [beq_self_eq_true, if_true] at e
        simp [h2, e]
      · have h3 : (Lib.indexByte l c.toUInt8 == -1) = false := by simpa using h2
        rw [h3] at e
        simp only [Bool.false_eq_true, if_false] at e
        rw [if_neg h2, e, if_neg (by omega)]
        omega
def preB : List UInt8 → List UInt8 → Bool
  | [], _ => true
  | _ :: _, [] => false
  | a :: x, b :: y => bif Nat.beq a.toNat b.toNat then preB x y else false
theorem preB_eq : ∀ (x y : List UInt8), preB x y = x.isPrefixOf y
  | [], y => by cases y <;> rfl
  | _ :: _, [] => rfl
  | a :: x, b :: y => by
    simp only [preB, List.isPrefixOf, cond_beq, preB_eq x y]
    by_cases h : a.toNat = b.toNat
    · have : a = b := UInt8.toNat_inj.1 h
      subst this
      simp
    · have : (a == b) = false := by
        rw [beq_eq_false_iff_ne]
        exact fun e => h (by rw [e])
      rw [if_neg h, this]
      rfl
def hasB : List UInt8 → List UInt8 → Bool
  | [], sub => preB sub []
  | b :: l, sub => bif preB sub (b :: l) then true else hasB l sub
theorem hasB_eq : ∀ (s sub : List UInt8), hasB s sub = Lib.contains s sub
  | [], sub => by
    simp only [hasB, preB_eq, Lib.contains, Lib.index]
    cases sub <;> simp
  | b :: l, sub => by
    simp only [hasB, preB_eq]
    have ih := hasB_eq l sub
    unfold Lib.contains at ih ⊢
    unfold Lib.index
    cases h : sub.isPrefixOf (b :: l) with
    | true => simp
    | false =>
      simp only [cond_false, Bool.false_eq_true, if_false, ih]
      have hge := Lib.index_ge l sub
      cases h2 : (Lib.index l sub == -1) with
      | true =>
        have : Lib.index l sub = -1 := by simpa using h2
        simp [this]
      | false =>
        have : Lib.index l sub ≠ -1 := by simpa using h2
        simp only [Bool.false_eq_true, if_false]
        rw [Bool.eq_iff_iff, decide_eq_true_eq, decide_eq_true_eq]
        omega
def containsP : PrimC := ⟨fun args h => match args with
  | [x, y] => (match x with
    | .str s => (match y with
      | .str sub => bif Nat.ble s.length 100000 then .val (.bool (hasB s sub)) h else .fail
      | _ => .fail)
    | _ => .fail)
  | _ => .fail⟩
theorem containsP_some {args : List V} {h h' : Heap} {v : V} (he : containsP.run args h = .val v h') : ∃ s sub, args = [.str s, .str sub] ∧ s.length ≤ 100000 ∧ v = .bool (Lib.contains s sub) ∧ h' = h := by
  simp only [containsP] at he
  split at he
  case h_2 => cases he
  split at he
  case h_2 => cases he
  split at he
  case h_2 => cases he
  obtain ⟨hc, h1⟩ := cond_val he
  simp only [OR.val.injEq] at h1
  obtain ⟨rfl, rfl⟩ := h1
  exact ⟨_, _, rfl, Nat.le_of_ble_eq_true hc, by rw [hasB_eq], rfl⟩
def indexP : PrimC := ⟨fun args h => match args with
  | [x, y] => (match x with
    | .str s => (match y with
      | .int k c => bif eqKind k .u8 && (Int.leB 0 c && Nat.blt c.toNat 256) then .val (.int .i64 (ixB c.toNat s 0)) h else .fail
      | _ => .fail)
    | _ => .fail)
  | _ => .fail⟩
theorem indexP_some {args : List V} {h h' : Heap} {v : V} (he : indexP.run args h = .val v h') : ∃ s c, args = [.str s, .int .u8 c] ∧ v = .int .i64 (Lib.indexByte s c.toNat.toUInt8) ∧ h' = h := by
  simp only [indexP] at he
  split at he
  case h_2 => cases he
  split at he
  case h_2 => cases he
  split at he
  case h_2 => cases he
  rename_i s _ k c
  obtain ⟨hc, h1⟩ := cond_val he
  simp only [Bool.and_eq_true, Nat.blt_eq] at hc
  have hk := eqKind_eq hc.1
  subst hk
  simp only [OR.val.injEq] at h1
  obtain ⟨rfl, rfl⟩ := h1
  refine ⟨s, c, rfl, ?_, rfl⟩
  rw [ixB_eq _ hc.2.2]
  by_cases h : Lib.indexByte s c.toNat.toUInt8 = -1
  · rw [if_pos h, h]
  · rw [if_neg h]
    simp
theorem indexP_ext {P : Program} {f : FuncId} {fn : Func} (hf : P.funcs[f]? = some fn) (hn : (fn.name == "runtime.NumGoroutine") = false) (hb : fn.body.isNone = true) (h1 : Extern.findNext fn = none) (h2 : Extern.find fn = some Extern.BytealgIndexByte.indexByte)
    {args : List V} {h h' : Heap} {v : V} (he : indexP.run args h = .val v h') (w0 : Fr) (E : Env) (w : World) (xs : List Value) (hx : RelL E args xs) (s : Sim w0 E h w) :
    ∃ E' x w', (callFunc f xs.toArray).run P w = .ok (.value x) w' ∧ E.le E' ∧ Rel E' v x ∧ Sim w0 E' h' w' := by
  obtain ⟨t, c, rfl, rfl, rfl⟩ := indexP_some he
  obtain ⟨y, ys, rfl, q1, z, zs, rfl, q2, rfl⟩ := hx
  simp only [Rel] at q1 q2
  subst q1 q2
  exact ⟨E, _, w, ext_run hf hn hb h1 h2 (Lib.run_indexByteString _ _ _), Env.le.refl E, by simp [Rel], s⟩
inductive RX where
  | t (n : Nat)
  | c (v : V)
abbrev RF := Nat → V
def RX.ev (r : RF) : RX → V
  | .t n => r n
  | .c v => v
def RX.evs (r : RF) : List RX → List V
  | [] => []
  | x :: xs => x.ev r :: RX.evs r xs
def rx : Operand → RX
  | .tmp t => bif Nat.ble t top then .t t else .c .bad
  | .const v => .c (ofVal v)
  | .func f => bif Nat.beq f yieldId then .c .bad else .c (.func f [])
  | .global _ => .c .bad
def rxs : List Operand → List RX
  | [] => []
  | x :: xs => rx x :: rxs xs
def RX.opt (r : RF) : Option RX → Option V
  | none => none
  | some x => some (x.ev r)
def rxo : Option Operand → Option RX
  | none => none
  | some x => some (rx x)
inductive BK where
  | int (op : BinOp)
  | str (op : BinOp)
  | shl
  | shr
  | eqb (neg : Bool)
  | eqn (neg : Bool) (k : Nat)
  | other (op : BinOp) (t : TypeId)
noncomputable def BK.run (P : Program) : BK → V → V → Option V
  | .int op => (intC op).run
  | .str op => (strC op).run
  | .shl => (shiftC true).run
  | .shr => (shiftC false).run
  | .eqb neg => (eqBin neg eqBoolC).run
  | .eqn neg k => (eqBin neg (eqNilC k)).run
  | .other op t => (binC P op t).run
inductive CK where
  | int (k : IntKind)
  | bytes
  | str
  | other (s d : TypeId)
noncomputable def CK.run (P : Program) : CK → V → Heap → OR
  | .int k => fun x h => x.onInt .fail fun _ n => .val (.int k (k.wrap n)) h
  | .bytes => convBytes.run
  | .str => convStr.run
  | .other s d => (convC P s d).run
inductive KK where
  | int | str | bool
def KK.eq : KK → EqC
  | .int => eqIntC
  | .str => eqStrC
  | .bool => eqBoolC
inductive LK where
  | arr (n : Nat)
  | str
  | slice
  | map
inductive G where
  | bad
  | mv (x : RX)
  | pick (c a b : RX)
  | new (z : List V)
  | box (x : RX)
  | build (z : List V) (ps : List (Nat × Nat × RX))
  | bsl (len size : Nat) (z : List V) (ps : List (Nat × Nat × RX))
  | ld1 (x : RX)
  | ldn (size : Nat) (x : RX)
  | st (size : Nat) (x y : RX)
  | nilck (x : RX)
  | bin (k : BK) (x y : RX)
  | un (op : UnOp) (x : RX)
  | cv (k : CK) (x : RX)
  | fn (f : FuncId) (caps : List RX)
  | mth (f : FuncId) (first : List RX)
  | asrt (t : TypeId) (z : Option V) (ok : Bool) (x : RX)
  | ifc (t : TypeId) (x : RX)
  | mksl (size : Nat) (z : List V) (l c : RX)
  | slstr (x : RX) (lo hi mx : Option RX)
  | sl (size : Nat) (x : RX) (lo hi mx : Option RX)
  | fa (off : Nat) (x : RX)
  | fld1 (off : Nat) (x : RX)
  | fldn (off size : Nat) (x : RX)
  | ia (size : Nat) (x i : RX)
  | iaa (n size : Nat) (x i : RX)
  | ixs (x i : RX)
  | ix (t : TypeId) (x i : RX)
  | look (k : KK) (z : V) (ok : Bool) (x i : RX)
  | upd (k : KK) (m i x : RX)
  | mkm (x : Option RX)
  | rngs (x : RX)
  | nxt (x : RX)
  | ext (x : RX) (i : Nat)
  | call (f : FuncId) (args : List RX)
  | callv (f : RX) (args : List RX)
  | len (k : LK) (x : RX)
  | app (size : Nat) (s x : RX)
  | copy (size : Nat) (d s : RX)
  | mn (args : List RX)
  | mx (args : List RX)
  | clr (z : List V) (x : RX)
def evPs (r : RF) : List (Nat × Nat × RX) → List (Nat × Nat × V)
  | [] => []
  | (o, s, x) :: ps => (o, s, x.ev r) :: evPs r ps
def fillR : List V → List (Nat × Nat × V) → Option (List V)
  | cells, [] => some cells
  | cells, (off, size, v) :: rest => bif v.good && (Nat.beq v.cells.length size && Nat.ble (off + v.cells.length) cells.length) then fillR (fillAt cells off v.cells) rest else none
noncomputable def LK.run : LK → V → Heap → OR
  | .arr n => fun _ h => .val (.int .i64 n) h
  | .str => fun x h => OR.of h ((lenOne .string).run x)
  | .slice => fun x h => OR.of h ((lenOne (.slice 0)).run x)
  | .map => fun x h => lenMap [x] h
noncomputable def G.run (P : Program) (g : G) (call : CallF) (r : RF) (h : Heap) : OR :=
  match g with
  | .bad => .fail
  | .mv x => .val (x.ev r) h
  | .pick c a b => match c.ev r with
    | .bool t => .val (bif t then a.ev r else b.ev r) h
    | _ => .fail
  | .new z => orHeap (.ptr (pa h.next) 0) (newCells h z)
  | .box x => bif (x.ev r).good then orHeap (.ptr (pa h.next) 0) (newCells h (x.ev r).cells) else .fail
  | .build z ps => (match fillR z (evPs r ps) with
    | some cs => .val (.agg cs) h
    | none => .fail)
  | .bsl n _ z ps => match fillR (repeatV z n) (evPs r ps) with
    | some cs => (match newCells h cs with
      | some h' => .val (.slice (pa h.next) 0 n n) h'
      | none => .fail)
    | none => .fail
  | .ld1 x => OR.of h (loadOne h (x.ev r))
  | .ldn n x => OR.of h (loadMany n h (x.ev r))
  | .st n x y => orHeap .bad (storeV n h (x.ev r) (y.ev r))
  | .nilck x => OR.of h (nilCheckV (x.ev r))
  | .bin k x y => OR.of h (k.run P (x.ev r) (y.ev r))
  | .un op x => OR.of h (unV op (x.ev r))
  | .cv k x => k.run P (x.ev r) h
  | .fn f caps => .val (.func f (RX.evs r caps)) h
  | .mth f first => .val (.meth f (RX.evs r first)) h
  | .asrt t z ok x => OR.of h (assertV t z ok (x.ev r))
  | .ifc t x => .val (.iface t (x.ev r)) h
  | .mksl n z l c => makeSliceV n z (l.ev r) (c.ev r) h
  | .slstr x lo hi m3 => OR.of h (sliceStr (x.ev r) (RX.opt r lo) (RX.opt r hi) (RX.opt r m3))
  | .sl n x lo hi m3 => OR.of h (match x.ev r with
    | .nilslice => sliceNil (RX.opt r lo) (RX.opt r hi) (RX.opt r m3)
    | .slice b off ln cap => sliceKnown n b off ln cap (RX.opt r lo) (RX.opt r hi) (RX.opt r m3)
    | .gslice b off ln idx => sliceGrown n b off ln idx (RX.opt r lo) (RX.opt r hi) (RX.opt r m3)
    | .tslice b off off' idx => sliceTail b off off' idx (RX.opt r lo) (RX.opt r hi) (RX.opt r m3)
    | _ => none)
  | .fa off x => OR.of h ((x.ev r).onPtr none fun b o => some (.ptr b (o + off)))
  | .fld1 off x => OR.of h (match x.ev r with
    | .agg cs => cs[off]?
    | _ => none)
  | .fldn off n x => OR.of h (match x.ev r with
    | .agg cs => some (.agg ((cs.drop off).take n))
    | _ => none)
  | .ia n x i => OR.of h ((indexSlice n).run (x.ev r) (i.ev r))
  | .iaa n s x i => OR.of h ((indexArr n s).run (x.ev r) (i.ev r))
  | .ixs x i => OR.of h (indexStr.run (x.ev r) (i.ev r))
  | .ix t x i => OR.of h ((indexC P t).run (x.ev r) (i.ev r))
  | .look k z ok x i => OR.of h (lookupU k.eq z ok h (x.ev r) (i.ev r))
  | .upd k m i x => orHeap .bad (updV k.eq h (m.ev r) (i.ev r) (x.ev r))
  | .mkm x => makeMapV (RX.opt r x) h
  | .rngs x => (match x.ev r with
    | .str s => .val (.ptr (pa h.next) 0) (h.new (.iter s 0))
    | _ => .fail)
  | .nxt x => nextV (x.ev r) h
  | .ext x i => (match x.ev r with
    | .tuple vs => OR.of h vs[i]?
    | _ => .fail)
  | .call f args => call f (RX.evs r args) h
  | .callv f args => (f.ev r).onFunc (RX.evs r args) fun g xs => call g xs h
  | .len k x => k.run (x.ev r) h
  | .app n s x => appV n (s.ev r) (x.ev r) h
  | .copy n d s => copyV n (d.ev r) (s.ev r) h
  | .mn args => OR.of h (pickV (fun b a => !Int.leB a b) (RX.evs r args))
  | .mx args => OR.of h (pickV (fun b a => !Int.leB b a) (RX.evs r args))
  | .clr z x => clearV z (x.ev r) h
def resBin (P : Program) (op : BinOp) (t : TypeId) : BK :=
  match op with
  | .shl => .shl
  | .shr => .shr
  | op => match tiOf P t with
    | none => .other op t
    | some ti => match ti.und with
      | .int _ => .int op
      | .string => .str op
      | .bool => (match op with
        | .eql => .eqb false
        | .neq => .eqb true
        | _ => .other op t)
      | .pointer _ => (match op with
        | .eql => .eqn false 1
        | .neq => .eqn true 1
        | _ => .other op t)
      | .slice _ => (match op with
        | .eql => .eqn false 2
        | .neq => .eqn true 2
        | _ => .other op t)
      | .map _ _ => (match op with
        | .eql => .eqn false 3
        | .neq => .eqn true 3
        | _ => .other op t)
      | .func _ _ _ => (match op with
        | .eql => .eqn false 4
        | .neq => .eqn true 4
        | _ => .other op t)
      | _ => .other op t
def resLit (P : Program) (op : BinOp) (t : TypeId) (lit : Bool) : BK :=
  bif lit then (match tiOf P t with
    | some ti => match ti.und with
      | .interface _ => match op with
        | .eql => .eqn false 5
        | .neq => .eqn true 5
        | _ => .eqn false 99
      | _ => .eqn false 99
    | none => .eqn false 99) else resBin P op t
def resConv (P : Program) (s d : TypeId) : CK :=
  match tiOf P s, tiOf P d with
  | some si, some di => match di.und with
    | .int k => .int k
    | .string => match si.und with
      | .slice e => match tiOf P e with
        | some ei => match ei.und with
          | .int .u8 => .str
          | _ => .other s d
        | none => .other s d
      | _ => .other s d
    | .slice e => match tiOf P e with
      | some ei => match ei.und with
        | .int .u8 => .bytes
        | _ => .other s d
      | none => .other s d
    | _ => .other s d
  | _, _ => .other s d
def placesR (place : Nat → Option (Nat × Nat)) : List (Nat × Operand) → Option (List (Nat × Nat × RX))
  | [] => some []
  | (i, x) :: ps => match place i with
    | none => none
    | some (off, size) => match placesR place ps with
      | none => none
      | some l => some ((off, size, rx x) :: l)
def resBuild (P : Program) (t : TypeId) (ps : List (Nat × Operand)) : G :=
  match tiOf P t with
  | some ti => match ti.zero with
    | some z => match ti.und with
      | .struct fs => bif fieldsKnown P fs.toList then (match placesR (fieldPlaceD P fs) ps with
        | some l => .build z.cells l
        | none => .bad) else .bad
      | .array _ e => match tiOf P e with
        | some ei => (match placesR (fun i => some (i * ei.size, ei.size)) ps with
          | some l => .build z.cells l
          | none => .bad)
        | none => .bad
      | _ => .bad
    | none => .bad
  | none => .bad
def resSliceLit (P : Program) (t : TypeId) (len : Nat) (ps : List (Nat × Operand)) : G :=
  match tiOf P t with
  | some ti => match ti.und with
    | .slice e => match tiOf P e with
      | some ei => match ei.zero with
        | some z => bif Nat.ble (len * ei.size) 1000000 && Nat.beq z.cells.length ei.size then
            (match placesR (fun i => some (i * ei.size, ei.size)) ps with
            | some l => .bsl len ei.size z.cells l
            | none => .bad) else .bad
        | none => .bad
      | none => .bad
    | _ => .bad
  | none => .bad
def kindKK : TypeDesc → Option KK
  | .int _ => some .int
  | .string => some .str
  | .bool => some .bool
  | _ => none
def clrZ (P : Program) (t : TypeId) : Option (List V) :=
  match tiOf P t with
  | some ti => match ti.und with
    | .slice e => match tiOf P e with
      | some ei => match ei.zero with
        | some z => some z.cells
        | none => none
      | none => none
    | _ => none
  | none => none
theorem clrZ_eq (P : Program) (t : TypeId) : clearC P t = clrZ P t := rfl
def resCall (P : Program) (c : Call) : G :=
  match c.callee with
  | .value (.func f) => bif Nat.beq f yieldId then .bad else .call f (rxs c.args.toList)
  | .value x => .callv (rx x) (rxs c.args.toList)
  | .invoke _ _ => .bad
  | .builtin b => match b with
    | .len => match c.argTypes.toList, c.args.toList with
      | [t], [x] => (match tiOf P t with
        | some ti => (match ti.und with
          | .map _ _ => .len .map (rx x)
          | .array n _ => .len (.arr n) (rx x)
          | .string => .len .str (rx x)
          | .slice _ => .len .slice (rx x)
          | _ => .bad)
        | none => .bad)
      | _, _ => .bad
    | .append => match c.argTypes.toList, c.args.toList with
      | [t, u], [s, x] => (match tiOf P t, tiOf P u with
        | some ti, some ui => (match ui.und with
          | .int _ => .bad
          | _ => match ti.und with
            | .slice e => (match tiOf P e with
              | none => .bad
              | some ei => match ei.zero with
                | none => .bad
                | some z => bif Nat.ble 1 ei.size && Nat.ble ei.bytes 4096 && Nat.beq z.cells.length ei.size then .app ei.size (rx s) (rx x) else .bad)
            | _ => .bad)
        | _, _ => .bad)
      | _, _ => .bad
    | .copy => match c.argTypes.toList, c.args.toList with
      | t :: _, [d, s] => (match tiOf P t with
        | some ti => (match ti.und with
          | .slice e => (match tiOf P e with
            | some ei => .copy ei.size (rx d) (rx s)
            | none => .bad)
          | _ => .bad)
        | none => .bad)
      | _, _ => .bad
    | .min => .mn (rxs c.args.toList)
    | .max => .mx (rxs c.args.toList)
    | .clear => match c.argTypes.toList, c.args.toList with
      | [t], [x] => (match clrZ P t with
        | some z => .clr z (rx x)
        | none => .bad)
      | _, _ => .bad
    | _ => .bad
def resG (P : Program) (op : Op) : G :=
  match op with
  | .move x => .mv (rx x)
  | .assign x => .mv (rx x)
  | .pick c a b => .pick (rx c) (rx a) (rx b)
  | .alloc t => (match tiOf P t with
    | some ti => (match ti.zero with
      | some z => .new z.cells
      | none => .bad)
    | none => .bad)
  | .box _ x => .box (rx x)
  | .build t ps => resBuild P t ps.toList
  | .buildSlice t n ps => resSliceLit P t n ps.toList
  | .load t x => (match tiOf P t with
    | none => .bad
    | some ti => bif ti.agg then .ldn ti.size (rx x) else bif Nat.beq ti.size 1 then .ld1 (rx x) else .bad)
  | .store t x y => (match tiOf P t with
    | none => .bad
    | some ti => .st ti.size (rx x) (rx y))
  | .nilCheck x => .nilck (rx x)
  | .binOp op t x y _ => .bin (resLit P op t (litNil x || litNil y)) (rx x) (rx y)
  | .unOp op _ x => .un op (rx x)
  | .convert s d x => .cv (resConv P s d) (rx x)
  | .makeFunc (.func f) first caps => bif first.isEmpty && !Nat.beq f yieldId then .fn f (rxs caps.toList) else bif caps.isEmpty && !Nat.beq f yieldId then .mth f (rxs first.toList) else .bad
  | .makeInterface t x => (match tiOf P t with
    | some ti => bif Nat.beq (nilKindD ti.und) 5 then .bad else .ifc t (rx x)
    | none => .bad)
  | .makeSlice t l c => (match tiOf P t with
    | some ti => (match ti.und with
      | .slice e => (match tiOf P e with
        | some ei => (match ei.zero with
          | some z => bif Nat.ble ei.bytes 4096 then .mksl ei.size z.cells (rx l) (rx c) else .bad
          | none => .bad)
        | none => .bad)
      | _ => .bad)
    | none => .bad)
  | .slice t x lo hi mx => (match tiOf P t with
    | none => .bad
    | some ti => match ti.und with
      | .string => .slstr (rx x) (rxo lo) (rxo hi) (rxo mx)
      | .slice e => (match tiOf P e with
        | none => .bad
        | some ei => .sl ei.size (rx x) (rxo lo) (rxo hi) (rxo mx))
      | _ => .bad)
  | .fieldAddr t x i => (match fieldD P t i with
    | none => .bad
    | some f => match tiOf P f.type with
      | none => .bad
      | some fi => bif Nat.beq fi.size 0 then .bad else .fa f.offset (rx x))
  | .field t x i => (match fieldD P t i with
    | none => .bad
    | some f => match tiOf P f.type with
      | none => .bad
      | some ti => bif ti.agg then .fldn f.offset ti.size (rx x) else .fld1 f.offset (rx x))
  | .indexAddr t x i => (match tiOf P t with
    | none => .bad
    | some ti => match ti.und with
      | .slice e => (match tiOf P e with
        | none => .bad
        | some ei => .ia ei.size (rx x) (rx i))
      | .array n e => (match tiOf P e with
        | none => .bad
        | some ei => .iaa n ei.size (rx x) (rx i))
      | _ => .bad)
  | .index t x i => (match tiOf P t with
    | none => .bad
    | some ti => match ti.und with
      | .string => .ixs (rx x) (rx i)
      | _ => .ix t (rx x) (rx i))
  | .range t x => (match tiOf P t with
    | some ti => (match ti.und with
      | .string => .rngs (rx x)
      | _ => .bad)
    | none => .bad)
  | .next it true => .nxt (rx it)
  | .lookup t x k ok => (match tiOf P t with
    | some ti => (match ti.und with
      | .map k' e => (match tiOf P k' with
        | some ki => (match tiOf P e with
          | some ei => (match ei.zero with
            | some z => (match kindKK ki.und with
              | some kk => .look kk z ok (rx x) (rx k)
              | none => .bad)
            | none => .bad)
          | none => .bad)
        | none => .bad)
      | _ => .bad)
    | none => .bad)
  | .mapUpdate t m k x | .insert t m k x => (match tiOf P t with
    | some ti => (match ti.und with
      | .map k' _ => (match tiOf P k' with
        | some ki => (match kindKK ki.und with
          | some kk => .upd kk (rx m) (rx k) (rx x)
          | none => .bad)
        | none => .bad)
      | _ => .bad)
    | none => .bad)
  | .makeMap t x => (match tiOf P t with
    | some ti => bif Nat.beq (nilKindD ti.und) 3 then .mkm (rxo x) else .bad
    | none => .bad)
  | .extract x i => .ext (rx x) i
  | .typeAssert x _ t ok => (match tiOf P t with
    | some ti => bif Nat.beq (nilKindD ti.und) 5 then .bad else .asrt t ti.zero ok (rx x)
    | none => .bad)
  | .call c => resCall P c
  | _ => .bad
noncomputable def ofT (T' : Regs) : RF := fun t => T.get .bad (pa t) T'
theorem evC_ofT (T' : Regs) (x : Operand) : (evC x).run T' = (rx x).ev (ofT T') := by
  cases x with
  | tmp t =>
    simp only [evC, rx]
    cases Nat.ble t top <;> rfl
  | const v => rfl
  | func f =>
    simp only [evC, rx]
    cases Nat.beq f yieldId <;> rfl
  | global g => rfl
theorem evsC_ofT (T' : Regs) : ∀ xs : List Operand, (evsC xs).run T' = RX.evs (ofT T') (rxs xs)
  | [] => rfl
  | x :: xs => by simp only [evsC, rxs, RX.evs, evC_ofT, evsC_ofT T' xs]
theorem optC_ofT (T' : Regs) (x : Option Operand) : (optC x).run T' = RX.opt (ofT T') (rxo x) := by
  cases x with
  | none => rfl
  | some x => simp only [optC, rxo, RX.opt, evC_ofT]
theorem fillR_ofT (T' : Regs) {place : Nat → Option (Nat × Nat)} : ∀ {ps : List (Nat × Operand)} {l : List (Nat × Nat × RX)}, placesR place ps = some l → ∀ cells, fillV place cells ((partsC ps).run T') = fillR cells (evPs (ofT T') l)
  | [], l, h, cells => by
    simp only [placesR, Option.some.injEq] at h
    subst h
    rfl
  | (i, x) :: ps, l, h, cells => by
    simp only [placesR] at h
    cases hp : place i with
    | none => rw [hp] at h; cases h
    | some os =>
      obtain ⟨off, size⟩ := os
      rw [hp] at h
      simp only at h
      cases hl : placesR place ps with
      | none => rw [hl] at h; cases h
      | some l' =>
        rw [hl] at h
        simp only [Option.some.injEq] at h
        subst h
        simp only [partsC, fillV, hp, evPs, fillR, evC_ofT]
        cases ((rx x).ev (ofT T')).good && (Nat.beq ((rx x).ev (ofT T')).cells.length size && Nat.ble (off + ((rx x).ev (ofT T')).cells.length) cells.length) with
        | false => rfl
        | true => exact fillR_ofT T' hl _
section
variable {P : Program}
theorem resBin_run (op : BinOp) (t : TypeId) : (resBin P op t).run P = (binC P op t).run := by
  unfold resBin binC
  cases op <;> first | rfl | skip
  all_goals
    cases ht : tiOf P t with
    | none => simp only [BK.run]; unfold binC; rw [ht]
    | some ti =>
      simp only
      cases hu : ti.und <;> first | rfl | (simp only [BK.run]; unfold binC; rw [ht]; simp only [hu]; done) | (simp only [BK.run]; unfold eqTop eqC; simp only [ht, hu]; first | done | rfl)
theorem resLit_run (op : BinOp) (t : TypeId) (lit : Bool) : (resLit P op t lit).run P = (binL P op t lit).run := by
  unfold resLit binL
  cases lit with
  | false => simp only [cond_false]; exact resBin_run op t
  | true =>
    simp only [cond_true]
    cases tiOf P t with
    | none => rfl
    | some ti =>
      simp only
      cases ti.und <;> first | rfl | (cases op <;> rfl)
theorem resConv_run (s d : TypeId) : (resConv P s d).run P = (convC P s d).run := by
  unfold resConv
  split
  · rename_i si di hs hd
    split
    · rename_i k hu
      simp only [CK.run]; unfold convC; rw [hs, hd]; simp only [hu]
    · rename_i hu
      split
      · rename_i e hv
        split
        · rename_i ei he
          split
          · rename_i hw
            simp only [CK.run]; unfold convC; rw [hs, hd]; simp only [hu, hv, he, hw]
          · rfl
        · rfl
      · rfl
    · rename_i e hu
      split
      · rename_i ei he
        split
        · rename_i hw
          simp only [CK.run]; unfold convC; rw [hs, hd]; simp only [hu, he, hw]
        · rfl
      · rfl
    · rfl
  · rfl
theorem keyFits_kk {d : TypeDesc} {kk : KK} (h : kindKK d = some kk) : keyFits d = true ∧ keyC d = kk.eq := by
  cases d <;> simp only [kindKK] at h <;> first | (cases h; done) | (cases h; exact ⟨rfl, rfl⟩)
theorem resCall_run {c : Call} {call : CallF} {T' : Regs} {h h' : Heap} {v : V} (he : (resCall P c).run P call (ofT T') h = .val v h') : (callC P c).run call T' h = .val v h' := by
  unfold resCall at he
  unfold callC
  split at he
  · rename_i f hc
    rw [hc]
    cases hy : Nat.beq f yieldId with
    | true => rw [hy] at he; cases he
    | false =>
      rw [hy] at he
      simp only [cond_false, G.run] at he
      simpa only [evC, hy, cond_false, evConst, V.onFunc, evsC_ofT, List.append_nil] using he
  · rename_i x hx hc
    rw [hc]
    simp only [G.run] at he
    simpa only [evC_ofT, evsC_ofT] using he
  · cases he
  · rename_i b hc
    rw [hc]
    simp only [evsC_ofT]
    cases b <;> simp only at he <;> try (cases he; done)
    case len =>
      split at he
      · rename_i t x ht hx
        cases hti : tiOf P t with
        | none => rw [hti] at he; cases he
        | some ti =>
          rw [hti] at he
          simp only at he
          simp only [builtC, ht, hti, hx, rxs, RX.evs]
          cases hu : ti.und <;> rw [hu] at he <;> first | (cases he; done) | (simpa only [isMapD, cond_true, cond_false, G.run, LK.run, lenOne, OR.of] using he)
      · cases he
    case append =>
      split at he
      · rename_i t u s x ht hx
        split at he
        · rename_i ti ui hti hui
          simp only [builtC, ht, hx, rxs, RX.evs, appC, hti, hui]
          split at he
          · cases he
          · rename_i hne
            split at he
            · rename_i e hte
              cases hei : tiOf P e with
              | none => rw [hei] at he; cases he
              | some ei =>
                rw [hei] at he
                simp only at he
                cases hz : ei.zero with
                | none => rw [hz] at he; cases he
                | some z =>
                  rw [hz] at he
                  simp only at he
                  cases hb : (Nat.ble 1 ei.size && Nat.ble ei.bytes 4096 && Nat.beq z.cells.length ei.size) with
                  | false => rw [hb] at he; cases he
                  | true =>
                    rw [hb] at he
                    simp only [cond_true, G.run] at he
                    cases huu : ui.und <;> first
                      | (exact absurd huu (hne _))
                      | (simp only [hte, hei, hz, hb, cond_true]; exact he)
            · cases he
        · cases he
      · cases he
    case copy =>
      split at he
      · rename_i t ts d s ht hx
        cases hti : tiOf P t with
        | none => rw [hti] at he; cases he
        | some ti =>
          rw [hti] at he
          simp only at he
          split at he
          · rename_i e hte
            cases hei : tiOf P e with
            | none => rw [hei] at he; cases he
            | some ei =>
              rw [hei] at he
              simp only [G.run] at he
              simp only [builtC, ht, hx, rxs, RX.evs, copyC, hti, hte, hei]
              exact he
          · cases he
      · cases he
    case min => exact he
    case max => exact he
    case clear =>
      split at he
      · rename_i t x ht hx
        cases hc : clrZ P t with
        | none => rw [hc] at he; cases he
        | some z =>
          rw [hc] at he
          simp only [G.run] at he
          simp only [builtC, ht, hx, rxs, RX.evs, clrZ_eq, hc]
          exact he
      · cases he
theorem resG_run {o : Oper} {call : CallF} {T' : Regs} {h h' : Heap} {v : V} (he : (resG P o.op).run P call (ofT T') h = .val v h') : (cop P o).run call T' h = .val v h' := by
  obtain ⟨dst, op, type, pos, after, guard⟩ := o
  cases op <;> simp only [resG] at he <;> try (cases he; done)
  all_goals simp only [cop]
  case move x => simpa only [evC_ofT, G.run] using he
  case assign x => simpa only [evC_ofT, G.run] using he
  case pick c a b =>
    simp only [evC_ofT, G.run] at he ⊢
    generalize (rx c).ev (ofT T') = q at he ⊢
    cases q <;> exact he
  case alloc t =>
    cases ht : tiOf P t with
    | none => rw [ht] at he; cases he
    | some ti =>
      rw [ht] at he
      simp only at he ⊢
      cases hz : ti.zero with
      | none => rw [hz] at he; cases he
      | some z => rw [hz] at he; exact he
  case box t x => simpa only [evC_ofT, G.run] using he
  case build t ps =>
    unfold resBuild at he
    unfold buildC
    cases ht : tiOf P t with
    | none => rw [ht] at he; cases he
    | some ti =>
      rw [ht] at he
      simp only at he ⊢
      cases hz : ti.zero with
      | none => rw [hz] at he; cases he
      | some z =>
        rw [hz] at he
        simp only at he ⊢
        cases hu : ti.und <;> rw [hu] at he <;> simp only at he ⊢ <;> try (cases he; done)
        · rename_i n e
          cases hei : tiOf P e with
          | none => rw [hei] at he; cases he
          | some ei =>
            rw [hei] at he
            simp only at he ⊢
            cases hp : placesR (fun i => some (i * ei.size, ei.size)) ps.toList with
            | none => rw [hp] at he; cases he
            | some l =>
              rw [hp] at he
              simp only [G.run] at he
              rw [fillR_ofT T' hp]
              cases hf : fillR z.cells (evPs (ofT T') l) with
              | none => rw [hf] at he; cases he
              | some cs => rw [hf] at he; exact he
        · rename_i fs
          cases hk : fieldsKnown P fs.toList with
          | false => rw [hk] at he; cases he
          | true =>
            rw [hk] at he
            simp only [cond_true] at he ⊢
            cases hp : placesR (fieldPlaceD P fs) ps.toList with
            | none => rw [hp] at he; cases he
            | some l =>
              rw [hp] at he
              simp only [G.run] at he
              rw [fillR_ofT T' hp]
              cases hf : fillR z.cells (evPs (ofT T') l) with
              | none => rw [hf] at he; cases he
              | some cs => rw [hf] at he; exact he
  case buildSlice t n ps =>
    unfold resSliceLit at he
    unfold buildSliceC
    cases ht : tiOf P t with
    | none => rw [ht] at he; cases he
    | some ti =>
      rw [ht] at he
      simp only at he ⊢
      cases hu : ti.und <;> rw [hu] at he <;> simp only at he ⊢ <;> try (cases he; done)
      rename_i e
      cases hei : tiOf P e with
      | none => rw [hei] at he; cases he
      | some ei =>
        rw [hei] at he
        simp only at he ⊢
        cases hz : ei.zero with
        | none => rw [hz] at he; cases he
        | some z =>
          rw [hz] at he
          simp only at he ⊢
          cases hb : (Nat.ble (n * ei.size) 1000000 && Nat.beq z.cells.length ei.size) with
          | false => rw [hb] at he; cases he
          | true =>
            rw [hb] at he
            simp only [cond_true] at he ⊢
            cases hp : placesR (fun i => some (i * ei.size, ei.size)) ps.toList with
            | none => rw [hp] at he; cases he
            | some l =>
              rw [hp] at he
              simp only [G.run] at he
              rw [fillR_ofT T' hp]
              exact he
  case load t x =>
    unfold loadC
    cases ht : tiOf P t with
    | none => rw [ht] at he; cases he
    | some ti =>
      rw [ht] at he
      simp only at he ⊢
      cases ha : ti.agg with
      | true => rw [ha] at he; simpa only [cond_true, evC_ofT, G.run] using he
      | false =>
        rw [ha] at he
        simp only [cond_false] at he ⊢
        cases hs : Nat.beq ti.size 1 with
        | true => rw [hs] at he; simpa only [cond_true, evC_ofT, G.run] using he
        | false => rw [hs] at he; cases he
  case store t x y =>
    unfold storeC
    cases ht : tiOf P t with
    | none => rw [ht] at he; cases he
    | some ti => rw [ht] at he; simpa only [evC_ofT, G.run] using he
  case nilCheck x => simpa only [evC_ofT, G.run] using he
  case binOp op t x y t2 => simpa only [evC_ofT, G.run, resLit_run] using he
  case unOp op t x => simpa only [evC_ofT, G.run] using he
  case convert s d x => simpa only [evC_ofT, G.run, resConv_run] using he
  case makeFunc fn first caps =>
    cases fn <;> simp only at he <;> try (cases he; done)
    simp only
    cases hf : (first.isEmpty && !Nat.beq _ yieldId) with
    | true => rw [hf] at he; simpa only [cond_true, evsC_ofT, G.run] using he
    | false =>
      rw [hf] at he
      simp only [cond_false] at he ⊢
      cases hf2 : (caps.isEmpty && !Nat.beq _ yieldId) with
      | true => rw [hf2] at he; simpa only [cond_true, evsC_ofT, G.run] using he
      | false => rw [hf2] at he; cases he
  case typeAssert x xt t ok =>
    cases ht : tiOf P t with
    | none => rw [ht] at he; cases he
    | some ti =>
      rw [ht] at he
      simp only at he ⊢
      cases hb : Nat.beq (nilKindD ti.und) 5 with
      | true => rw [hb] at he; cases he
      | false => rw [hb] at he; simpa only [cond_false, evC_ofT, G.run] using he
  case makeInterface t x =>
    cases ht : tiOf P t with
    | none => rw [ht] at he; cases he
    | some ti =>
      rw [ht] at he
      simp only at he ⊢
      cases hb : Nat.beq (nilKindD ti.und) 5 with
      | true => rw [hb] at he; cases he
      | false => rw [hb] at he; simpa only [cond_false, evC_ofT, G.run] using he
  case makeSlice t l c =>
    unfold makeSliceC
    cases ht : tiOf P t with
    | none => rw [ht] at he; cases he
    | some ti =>
      rw [ht] at he
      simp only at he ⊢
      cases hu : ti.und <;> rw [hu] at he <;> simp only at he ⊢ <;> try (cases he; done)
      rename_i e
      cases hei : tiOf P e with
      | none => rw [hei] at he; cases he
      | some ei =>
        rw [hei] at he
        simp only at he ⊢
        cases hz : ei.zero with
        | none => rw [hz] at he; cases he
        | some z =>
          rw [hz] at he
          simp only at he ⊢
          cases hb : Nat.ble ei.bytes 4096 with
          | false => rw [hb] at he; cases he
          | true => rw [hb] at he; simpa only [cond_true, evC_ofT, G.run] using he
  case slice t x lo hi m3 =>
    unfold sliceC
    cases ht : tiOf P t with
    | none => rw [ht] at he; cases he
    | some ti =>
      rw [ht] at he
      simp only at he ⊢
      cases hu : ti.und <;> rw [hu] at he <;> simp only at he ⊢ <;> try (cases he; done)
      · simpa only [evC_ofT, optC_ofT, G.run] using he
      · rename_i e
        cases hei : tiOf P e with
        | none => rw [hei] at he; cases he
        | some ei =>
          rw [hei] at he
          simp only [evC_ofT, optC_ofT, G.run] at he ⊢
          generalize (rx x).ev (ofT T') = q at he ⊢
          cases q <;> exact he
  case fieldAddr t x i =>
    unfold fieldAddrC
    cases hf : fieldD P t i with
    | none => rw [hf] at he; cases he
    | some f =>
      rw [hf] at he
      simp only at he ⊢
      cases ht : tiOf P f.type with
      | none => rw [ht] at he; cases he
      | some fi =>
        rw [ht] at he
        simp only at he ⊢
        cases hb : Nat.beq fi.size 0 with
        | true => rw [hb] at he; cases he
        | false => rw [hb] at he; simpa only [cond_false, evC_ofT, G.run] using he
  case field t x i =>
    unfold fieldC
    cases hf : fieldD P t i with
    | none => rw [hf] at he; cases he
    | some f =>
      rw [hf] at he
      simp only [partC] at he ⊢
      cases ht : tiOf P f.type with
      | none => rw [ht] at he; cases he
      | some fi =>
        rw [ht] at he
        simp only at he ⊢
        cases hb : fi.agg with
        | true =>
          rw [hb] at he
          simp only [cond_true, evC_ofT, G.run] at he ⊢
          generalize (rx x).ev (ofT T') = q at he ⊢
          cases q <;> exact he
        | false =>
          rw [hb] at he
          simp only [cond_false, evC_ofT, G.run] at he ⊢
          generalize (rx x).ev (ofT T') = q at he ⊢
          cases q <;> exact he
  case indexAddr t x i =>
    unfold indexAddrC
    cases ht : tiOf P t with
    | none => rw [ht] at he; cases he
    | some ti =>
      rw [ht] at he
      simp only at he ⊢
      cases hu : ti.und <;> rw [hu] at he <;> simp only at he ⊢ <;> try (cases he; done)
      all_goals
        rename_i e
        cases hei : tiOf P e with
        | none => rw [hei] at he; cases he
        | some ei => rw [hei] at he; simpa only [evC_ofT, G.run] using he
  case index t x i =>
    cases ht : tiOf P t with
    | none => rw [ht] at he; cases he
    | some ti =>
      rw [ht] at he
      simp only at he
      cases hu : ti.und <;> rw [hu] at he <;> simp only [G.run] at he
      case string =>
        unfold indexC
        rw [ht]
        simp only [hu]
        simpa only [evC_ofT] using he
      all_goals simpa only [evC_ofT] using he
  case range t x =>
    unfold rangeC
    cases ht : tiOf P t with
    | none => rw [ht] at he; cases he
    | some ti =>
      rw [ht] at he
      simp only at he ⊢
      cases hu : ti.und <;> rw [hu] at he <;> simp only at he ⊢ <;> try (cases he; done)
      simp only [evC_ofT, G.run] at he ⊢
      generalize (rx x).ev (ofT T') = q at he ⊢
      cases q <;> exact he
  case next it b =>
    cases b <;> simp only at he <;> try (cases he; done)
    simpa only [cond_true, evC_ofT, G.run] using he
  case lookup t x k ok =>
    unfold lookupC
    cases ht : tiOf P t with
    | none => rw [ht] at he; cases he
    | some ti =>
      rw [ht] at he
      simp only at he ⊢
      cases hu : ti.und <;> rw [hu] at he <;> simp only at he ⊢ <;> try (cases he; done)
      rename_i k' e
      cases hk : tiOf P k' with
      | none => rw [hk] at he; cases he
      | some ki =>
        rw [hk] at he
        simp only at he ⊢
        cases hei : tiOf P e with
        | none => rw [hei] at he; cases he
        | some ei =>
          rw [hei] at he
          simp only at he ⊢
          cases hz : ei.zero with
          | none => rw [hz] at he; cases he
          | some z =>
            rw [hz] at he
            simp only at he ⊢
            cases hkk : kindKK ki.und with
            | none => rw [hkk] at he; cases he
            | some kk =>
              rw [hkk] at he
              obtain ⟨q1, q2⟩ := keyFits_kk hkk
              simp only [q1, q2, cond_true]
              simpa only [evC_ofT, G.run] using he
  case mapUpdate t m k x =>
    unfold updC
    cases ht : tiOf P t with
    | none => rw [ht] at he; cases he
    | some ti =>
      rw [ht] at he
      simp only at he ⊢
      cases hu : ti.und <;> rw [hu] at he <;> simp only at he ⊢ <;> try (cases he; done)
      rename_i k' e
      cases hk : tiOf P k' with
      | none => rw [hk] at he; cases he
      | some ki =>
        rw [hk] at he
        simp only at he ⊢
        cases hkk : kindKK ki.und with
        | none => rw [hkk] at he; cases he
        | some kk =>
          rw [hkk] at he
          obtain ⟨q1, q2⟩ := keyFits_kk hkk
          simp only [q1, q2, cond_true]
          simpa only [evC_ofT, G.run] using he
  case insert t m k x =>
    unfold updC
    cases ht : tiOf P t with
    | none => rw [ht] at he; cases he
    | some ti =>
      rw [ht] at he
      simp only at he ⊢
      cases hu : ti.und <;> rw [hu] at he <;> simp only at he ⊢ <;> try (cases he; done)
      rename_i k' e
      cases hk : tiOf P k' with
      | none => rw [hk] at he; cases he
      | some ki =>
        rw [hk] at he
        simp only at he ⊢
        cases hkk : kindKK ki.und with
        | none => rw [hkk] at he; cases he
        | some kk =>
          rw [hkk] at he
          obtain ⟨q1, q2⟩ := keyFits_kk hkk
          simp only [q1, q2, cond_true]
          simpa only [evC_ofT, G.run] using he
  case makeMap t x =>
    unfold makeMapC
    cases ht : tiOf P t with
    | none => rw [ht] at he; cases he
    | some ti =>
      rw [ht] at he
      simp only at he ⊢
      cases hb : Nat.beq (nilKindD ti.und) 3 with
      | false => rw [hb] at he; cases he
      | true => rw [hb] at he; simpa only [cond_true, optC_ofT, G.run] using he
  case extract x i =>
    simp only [evC_ofT, G.run] at he ⊢
    generalize (rx x).ev (ofT T') = q at he ⊢
    cases q <;> exact he
  case call c => exact resCall_run he
end
end Go.Proofs.YtigflhomnoledaaGreatDoor.Am

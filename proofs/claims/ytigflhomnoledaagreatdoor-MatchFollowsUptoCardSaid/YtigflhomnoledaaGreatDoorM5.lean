/- The abstract machine and its walks (a verified interpreter of the model's code: plain definitions and lemmas, no condition). -/
import Derived.Test.YtigflhomnoledaaGreatDoorM4
import Derived.IntWalk
import Derived.ChangeArms
import Derived.DataReads
import Derived.ChangeBears
import Derived.Carry
import Derived.OpenShut
import Derived.ChangeSame
import Derived.Handed
import Derived.HandedShaped
set_option linter.unusedSectionVars false
set_option linter.unusedSimpArgs false
set_option linter.unusedVariables false
namespace Go.Proofs.YtigflhomnoledaaGreatDoor.Am
variable [Lay]
open Go Go.RowKit
def CallsV (P : Program) (f : FuncId) (args : List V) (h : Heap) (v : V) (h' : Heap) : Prop :=
  f ≠ yieldId ∧ (((∃ fn, P.funcs[f]? = some fn ∧ fn.body.isSome = true) ∧ ∀ (w0 : Fr) E w xs, RelL E args xs → Sim w0 E h w →
    Calls P f xs.toArray w fun e w' => ∃ E' x, e = .returned x ∧ E.le E' ∧ Rel E' v x ∧ Sim w0 E' h' w') ∨
  ∀ (w0 : Fr) E w xs, RelL E args xs → Sim w0 E h w → ∃ E' x w', (callFunc f xs.toArray).run P w = .ok (.value x) w' ∧ E.le E' ∧ Rel E' v x ∧ Sim w0 E' h' w')
def YieldsV (P : Program) (args : List V) (b : Pa) (h : Heap) (v : V) (h' : Heap) : Prop :=
  ∀ (w0 : Fr) E w xs p, RelL E args xs → Sim w0 E h w → E b = some p →
    ∃ f tmps assign body, (Instr.yield p.blk xs.toArray).run P w = .ok (.round p.blk f tmps assign body) w ∧
      RoundIn (Wd none) 0 P p.blk f tmps assign body w fun e w' => ∃ E' x, e = .returned x ∧ E.le E' ∧ Rel E' v x ∧ Sim w0 E' h' w'
theorem CallsV.calls {P : Program} (hN : NamesOk P) {f : FuncId} {args : List V} {h h' : Heap} {v : V} (H : CallsV P f args h v h') (hb : ∃ fn, P.funcs[f]? = some fn ∧ fn.body.isSome = true) (w0 : Fr) (E : Env) (w : World) (xs : List Value) (hx : RelL E args xs) (s : Sim w0 E h w) :
    Calls P f xs.toArray w fun e w' => ∃ E' x, e = .returned x ∧ E.le E' ∧ Rel E' v x ∧ Sim w0 E' h' w' := by
  rcases H.2 with ⟨_, H⟩ | H
  · exact H w0 E w xs hx s
  · obtain ⟨E', x, w', hr, _⟩ := H w0 E w xs hx s
    obtain ⟨fn, h1, h2⟩ := hb
    rw [run_callFunc hN h1 h2] at hr
    cases hr
def Ctr (P : Program) (f : FuncId) (args : List V) (h : Heap) (K : V → Heap → Prop) : Prop := ∃ v h', CallsV P f args h v h' ∧ K v h'
def Yld (P : Program) (args : List V) (b : Pa) (h : Heap) (K : V → Heap → Prop) : Prop := ∃ v h', YieldsV P args b h v h' ∧ K v h'
def YldC (P : Program) (xs : List V) (h : Heap) (K : V → Heap → Prop) : Prop := ∃ ys b, xs = ys ++ [.ptr b 0] ∧ Yld P ys b h K
def CallX (P : Program) (g : FuncId) (xs : List V) (h : Heap) (K : V → Heap → Prop) : Prop := if g = yieldId then YldC P xs h K else Ctr P g xs h K
def V.target (v : V) (args : List V) : Option (FuncId × List V) :=
  match v with
  | .func g cs => some (g, args ++ cs)
  | .meth g cs => some (g, cs ++ args)
  | _ => none
theorem onFunc_target {v : V} {args xs : List V} {g : FuncId} (h : v.target args = some (g, xs)) (F : FuncId → List V → OR) : v.onFunc args F = F g xs := by
  cases v <;> simp only [V.target] at h <;> try (cases h; done)
  all_goals (simp only [Option.some.injEq, Prod.mk.injEq] at h; obtain ⟨rfl, rfl⟩ := h; rfl)
theorem Ctr.mono {P : Program} {f : FuncId} {args : List V} {h : Heap} {K K' : V → Heap → Prop} (c : Ctr P f args h K) (hk : ∀ v h', K v h' → K' v h') : Ctr P f args h K' := by
  obtain ⟨v, h', q1, q2⟩ := c
  exact ⟨v, h', q1, hk v h' q2⟩
def nocall : CallF := fun _ _ _ => .fail
theorem nocall_ok (P : Program) : CallOk P nocall ∧ CallBody P nocall :=
  ⟨⟨fun _ f args h v h' _ he => by simp [nocall] at he, fun _ f args h v h' _ he => by simp [nocall] at he, fun _ args b h v h' he => by simp [nocall] at he, fun args h v h' he => by simp [nocall] at he⟩, fun f args h v h' he => by simp [nocall] at he⟩
open Classical in
noncomputable def orc (f : FuncId) (args : List V) (h : Heap) (v : V) (h' : Heap) : CallF :=
  fun f1 a1 h1 => if f1 = f ∧ a1 = args ∧ h1 = h then .val v h' else .fail
theorem orc_ok {P : Program} {f : FuncId} {args : List V} {h h' : Heap} {v : V} (H : CallsV P f args h v h') : CallOk P (orc f args h v h') ∧ CallBody P (orc f args h v h') := by
  refine ⟨⟨fun w0 f1 a1 h1 v1 h1' _ he => ?_, fun w0 f1 a1 h1 v1 h1' _ he => ?_, fun w0 a1 b h1 v1 h1' he => ?_, fun a1 h1 v1 h1' he => ?_⟩, fun f1 a1 h1 v1 h1' he => ?_⟩
  · unfold orc at he
    split at he
    · rename_i hc
      obtain ⟨rfl, rfl, rfl⟩ := hc
      simp only [OR.val.injEq] at he
      obtain ⟨rfl, rfl⟩ := he
      intro E w xs hx s
      rcases H.2 with H | H
      · exact .inl ⟨H.1, H.2 w0 E w xs hx s⟩
      · exact .inr (H w0 E w xs hx s)
    · cases he
  · unfold orc at he
    split at he <;> cases he
  · unfold orc at he
    split at he
    · rename_i hc
      exact absurd hc.1.symm H.1
    · cases he
  · unfold orc at he
    split at he <;> cases he
  · trivial
theorem snoc_inj {xs ys : List V} {x y : V} (h : xs ++ [x] = ys ++ [y]) : xs = ys ∧ x = y := by
  have := List.append_inj' h rfl
  exact ⟨this.1, by simpa using this.2⟩
theorem orcY_ok {P : Program} {args : List V} {b : Pa} {h h' : Heap} {v : V} (H : YieldsV P args b h v h') : CallOk P (orc yieldId (args ++ [.ptr b 0]) h v h') ∧ CallBody P (orc yieldId (args ++ [.ptr b 0]) h v h') := by
  refine ⟨⟨fun w0 f1 a1 h1 v1 h1' hne he => ?_, fun w0 f1 a1 h1 v1 h1' _ he => ?_, fun w0 a1 b1 h1 v1 h1' he => ?_, fun a1 h1 v1 h1' he => ?_⟩, fun f1 a1 h1 v1 h1' he => ?_⟩
  · unfold orc at he
    split at he
    · rename_i hc
      exact absurd hc.1 hne
    · cases he
  · unfold orc at he
    split at he <;> cases he
  · unfold orc at he
    split at he
    · rename_i hc
      obtain ⟨_, hc, rfl⟩ := hc
      obtain ⟨rfl, hb⟩ := snoc_inj hc
      simp only [V.ptr.injEq, and_true] at hb
      subst hb
      simp only [OR.val.injEq] at he
      obtain ⟨rfl, rfl⟩ := he
      exact fun E w xs p hx s hp => H w0 E w xs p hx s hp
    · cases he
  · unfold orc at he
    split at he <;> cases he
  · trivial
theorem orc_run {f : FuncId} {args : List V} {h h' : Heap} {v : V} : orc f args h v h' f args h = .val v h' := by
  unfold orc
  rw [if_pos ⟨rfl, rfl, rfl⟩]
def RF.set (r : RF) (d : Option Nat) (v : V) : RF :=
  match d with
  | none => r
  | some d => fun t => if t = d then v else r t
def RF.trim (r : RF) : List Nat → RF
  | [], _ => .bad
  | u :: us, t => if t = u then r t else RF.trim r us t
def RF.ofL : List V → RF
  | [], _ => .bad
  | v :: vs, t => if t = 0 then v else RF.ofL vs (t - 1)
noncomputable def trieF (r : RF) : List Nat → Regs
  | [] => .e
  | t :: ts => T.put .bad (r t) (pa t) (trieF r ts)
theorem trieF_of (r : RF) : ∀ ts : List Nat, ofT (trieF r ts) = RF.trim r ts
  | [] => by funext t; simp [ofT, trieF, RF.trim]
  | u :: ts => by
    funext t
    have ih := congrFun (trieF_of r ts) t
    simp only [ofT] at ih
    simp only [ofT, trieF, RF.trim, T.get_put]
    by_cases h : t = u
    · subst h; simp
    · rw [if_neg (fun e => h (pa_inj e).symm), if_neg h]
      exact ih
theorem trimR_of (T' : Regs) : ∀ ts : List Nat, ofT (trimR T' ts) = RF.trim (ofT T') ts
  | [] => by funext t; simp [ofT, trimR, RF.trim]
  | u :: ts => by
    funext t
    have ih := congrFun (trimR_of T' ts) t
    simp only [ofT] at ih
    simp only [ofT, trimR, RF.trim, T.get_put]
    by_cases h : t = u
    · subst h; simp
    · rw [if_neg (fun e => h (pa_inj e).symm), if_neg h]
      exact ih
theorem trim_mem {r : RF} : ∀ {ts : List Nat} {t : Nat}, t ∈ ts → RF.trim r ts t = r t
  | [], t, h => by simp at h
  | u :: ts, t, h => by
    simp only [RF.trim]
    by_cases hu : t = u
    · rw [if_pos hu]
    · rw [if_neg hu]
      simp only [List.mem_cons] at h
      exact trim_mem (h.resolve_left hu)
theorem trim_not {r : RF} : ∀ {ts : List Nat} {t : Nat}, t ∉ ts → RF.trim r ts t = .bad
  | [], t, _ => rfl
  | u :: ts, t, h => by
    simp only [List.mem_cons, not_or] at h
    simp only [RF.trim]
    rw [if_neg h.1]
    exact trim_not h.2
theorem put_of (d : Option Nat) (T' : Regs) (v : V) : ofT ((putC d).run T' v) = (ofT T').set d v := by
  cases d with
  | none => rfl
  | some d =>
    funext t
    simp only [ofT, putC, RF.set, T.get_put]
    by_cases h : t = d
    · subst h; simp
    · rw [if_neg (fun e => h (pa_inj e).symm), if_neg h]
def Out (nt : Nat) (r : RF) : Prop := ∀ t, nt ≤ t → r t = .bad
theorem exists_trie {nt : Nat} {r : RF} (ho : Out nt r) : ∃ T', ofT T' = r := by
  refine ⟨trieF r (List.range nt), ?_⟩
  rw [trieF_of]
  funext t
  by_cases h : t < nt
  · exact trim_mem (List.mem_range.2 h)
  · rw [trim_not (by simpa using h), ho t (by omega)]
theorem Out.set {nt : Nat} {r : RF} (ho : Out nt r) {d : Option Nat} (hd : dstFine nt d = true) (v : V) : Out nt (r.set d v) := by
  intro t ht
  cases d with
  | none => exact ho t ht
  | some d =>
    simp only [dstFine, Bool.and_eq_true, Nat.blt_eq] at hd
    simp only [RF.set]
    rw [if_neg (by omega)]
    exact ho t ht
structure RegF (E : Env) (nt : Nat) (D : List Deferred) (r : RF) (a : Act) : Prop where
  size : a.tmps.size = nt
  defers : a.defers = D
  reg : ∀ t, Rel E (r t) (a.tmps.getD t undef)
theorem RegF.mono {E E' : Env} (h : E.le E') {nt : Nat} {D : List Deferred} {r : RF} {a : Act} (k : RegF E nt D r a) : RegF E' nt D r a :=
  ⟨k.size, k.defers, fun t => Rel.mono h _ _ (k.reg t)⟩
theorem RegF.put {E E' : Env} (h : E.le E') {nt : Nat} {D : List Deferred} {r : RF} {a : Act} (k : RegF E nt D r a) {d : Option Nat} (hd : dstFine nt d = true) {v : V} {x : Value} (hx : Rel E' v x) : RegF E' nt D (r.set d v) (a.put d x) := by
  cases d with
  | none => exact k.mono h
  | some d =>
    simp only [dstFine, Bool.and_eq_true, Nat.blt_eq] at hd
    refine ⟨by simp [Act.put, k.size], by simp [Act.put, k.defers], fun t => ?_⟩
    simp only [RF.set, Act.put]
    rw [Array.getD_eq_getD_getElem?, Array.getElem?_setIfInBounds]
    by_cases ht : t = d
    · subst ht
      rw [if_pos rfl, if_pos rfl, if_pos (by rw [k.size]; exact hd.1)]
      exact hx
    · rw [if_neg ht, if_neg (fun e => ht e.symm), ← Array.getD_eq_getD_getElem?]
      exact Rel.mono h _ _ (k.reg t)
noncomputable def G.wp (P : Program) (g : G) (r : RF) (h : Heap) (K : V → Heap → Prop) : Prop :=
  match g with
  | .call f args => Ctr P f (RX.evs r args) h K
  | .callv f args => ∃ g xs, (f.ev r).target (RX.evs r args) = some (g, xs) ∧ CallX P g xs h K
  | g => ∃ v h', g.run P nocall r h = .val v h' ∧ K v h'
theorem G.wp_run {P : Program} {g : G} {r : RF} {h : Heap} {K : V → Heap → Prop} (H : g.wp P r h K) : ∃ call v h', (CallOk P call ∧ CallBody P call) ∧ g.run P call r h = .val v h' ∧ K v h' := by
  cases g
  case call f args =>
    obtain ⟨v, h', q1, q2⟩ := H
    exact ⟨_, v, h', orc_ok q1, orc_run, q2⟩
  case callv f args =>
    obtain ⟨g, xs, hf, H⟩ := H
    unfold CallX at H
    split at H
    rotate_left
    · obtain ⟨v, h', q1, q2⟩ := H
      refine ⟨_, v, h', orc_ok q1, ?_, q2⟩
      simp only [G.run]
      rw [onFunc_target hf]
      exact orc_run
    · rename_i hg
      subst hg
      obtain ⟨ys, b, rfl, v, h', q1, q2⟩ := H
      refine ⟨_, v, h', orcY_ok q1, ?_, q2⟩
      simp only [G.run]
      rw [onFunc_target hf]
      exact orc_run
  all_goals
    obtain ⟨v, h', q1, q2⟩ := H
    exact ⟨nocall, v, h', nocall_ok P, q1, q2⟩
structure GO where
  dst : Option Nat
  g : G
  gd : Option (Nat × Bool)
  rs : List Nat
def GO.bad : GO := ⟨none, .bad, none, []⟩
def gate (v : V) (want : Bool) (A B : Prop) : Prop :=
  match v with
  | .bool b => (b = want → A) ∧ (b = !want → B)
  | .tuple _ => B
  | _ => False
noncomputable def GO.wp (P : Program) (o : GO) (r : RF) (h : Heap) (K : RF → V → Heap → Prop) : Prop :=
  match o.gd with
  | none => o.g.wp P (r.trim o.rs) h fun v h' => K (r.set o.dst v) v h'
  | some (d, want) => gate (r.trim o.rs d) want (o.g.wp P (r.trim o.rs) h fun v h' => K (r.set o.dst v) v h') (K (r.set o.dst (.tuple [])) (.tuple []) h)
def resO (P : Program) (nt : Nat) (all : Array Oper) (o : Oper) : GO :=
  bif dstFine nt o.dst && smallT (readsOf all o) then
    match o.guard with
    | none => ⟨o.dst, resG P o.op, none, readsOf all o⟩
    | some (j, want) => match all[j]? with
      | some g => match g.dst with
        | some d => bif Nat.blt d nt && Nat.ble d top then ⟨o.dst, resG P o.op, some (d, want), readsOf all o⟩ else GO.bad
        | none => GO.bad
      | none => GO.bad
  else GO.bad
def resOs (P : Program) (nt : Nat) (all : Array Oper) : List Oper → List GO
  | [] => []
  | o :: os => resO P nt all o :: resOs P nt all os
theorem resOs_map (P : Program) (nt : Nat) (all : Array Oper) : ∀ l : List Oper, resOs P nt all l = l.map (resO P nt all)
  | [] => rfl
  | o :: os => by simp [resOs, resOs_map P nt all os]
theorem GO.bad_wp {P : Program} {r : RF} {h : Heap} {K : RF → V → Heap → Prop} : ¬ GO.bad.wp P r h K := by
  rintro ⟨v, h', q, _⟩
  cases q
theorem GO.wp_run {P : Program} {nt : Nat} {all : Array Oper} {o : Oper} {r : RF} {h : Heap} {K : RF → V → Heap → Prop} (H : (resO P nt all o).wp P r h K) :
    ∃ call v h', (CallOk P call ∧ CallBody P call) ∧ dstFine nt o.dst = true ∧ K (r.set o.dst v) v h' ∧ ∀ T', ofT T' = r → (dopC P nt all o).run call T' h = .val v h' := by
  unfold resO at H
  cases hc : (dstFine nt o.dst && smallT (readsOf all o)) with
  | false => rw [hc] at H; exact absurd H GO.bad_wp
  | true =>
    have hd : dstFine nt o.dst = true := by simp only [Bool.and_eq_true] at hc; exact hc.1
    rw [hc] at H
    simp only [cond_true] at H
    cases hg : o.guard with
    | none =>
      rw [hg] at H
      obtain ⟨call, v, h', q1, q2, q3⟩ := G.wp_run H
      refine ⟨call, v, h', q1, hd, q3, fun T' hT => ?_⟩
      unfold dopC
      rw [hc]
      simp only [cond_true, hg, dopRun]
      refine resG_run ?_
      rw [trimR_of, hT]
      exact q2
    | some jw =>
      obtain ⟨j, want⟩ := jw
      rw [hg] at H
      simp only at H
      cases hj : all[j]? with
      | none => rw [hj] at H; exact absurd H GO.bad_wp
      | some g =>
        rw [hj] at H
        simp only at H
        cases hgd : g.dst with
        | none => rw [hgd] at H; exact absurd H GO.bad_wp
        | some d =>
          rw [hgd] at H
          simp only at H
          cases hb : (Nat.blt d nt && Nat.ble d top) with
          | false => rw [hb] at H; exact absurd H GO.bad_wp
          | true =>
            rw [hb] at H
            simp only [cond_true, GO.wp] at H
            have key : dopC P nt all o = ⟨dopRun (some (evTmp (pa d), want)) (cop P o) (readsOf all o)⟩ := by
              unfold dopC
              rw [hc]
              simp only [cond_true, hg, hj, hgd, hb]
            have hev : ∀ T', ofT T' = r → (evTmp (pa d)).run (trimR T' (readsOf all o)) = r.trim (readsOf all o) d := by
              intro T' hT
              rw [← hT, ← trimR_of]
              rfl
            cases hv : r.trim (readsOf all o) d <;> rw [hv] at H <;> simp only [gate] at H
            case bool b =>
              by_cases hbw : b = want
              · obtain ⟨call, v, h', q1, q2, q3⟩ := G.wp_run (H.1 hbw)
                refine ⟨call, v, h', q1, hd, q3, fun T' hT => ?_⟩
                rw [key]
                simp only [dopRun, hev T' hT, hv]
                rw [show (bif want then b else !b) = true from by subst hbw; cases b <;> rfl]
                simp only [cond_true]
                refine resG_run ?_
                rw [trimR_of, hT]
                exact q2
              · have hbn : b = !want := by cases b <;> cases want <;> simp_all
                refine ⟨nocall, .tuple [], h, nocall_ok P, hd, H.2 hbn, fun T' hT => ?_⟩
                rw [key]
                simp only [dopRun, hev T' hT, hv]
                rw [show (bif want then b else !b) = false from by subst hbn; cases want <;> rfl]
                rfl
            case tuple vs =>
              refine ⟨nocall, .tuple [], h, nocall_ok P, hd, H, fun T' hT => ?_⟩
              rw [key]
              simp only [dopRun, hev T' hT, hv]
noncomputable def wpOs (P : Program) : List GO → RF → Heap → (RF → Heap → Prop) → Prop
  | [], r, h, K => K r h
  | o :: os, r, h, K => o.wp P r h fun r' _ h' => wpOs P os r' h' K
structure EntF where
  r : RF
  h : Heap
  v : V
noncomputable def wpD (P : Program) : List GO → RF → Heap → (List EntF → RF → Heap → Prop) → Prop
  | [], r, h, K => K [] r h
  | o :: os, r, h, K => o.wp P r h fun r' v h' => wpD P os r' h' fun es rf hf => K (⟨r, h, v⟩ :: es) rf hf
def heapF (es : List EntF) (hf : Heap) (i : Nat) : Heap :=
  match es[i]? with
  | some e => e.h
  | none => hf
noncomputable def askP (P : Program) (o : Option GO) (e : Option EntF) (es : List EntF) (hf : Heap) : List Nat → Prop
  | [] => True
  | s :: ss => (match o, e with
    | some o, some e => o.wp P e.r (heapF es hf s) fun _ v' _ => v' = e.v
    | _, _ => False) ∧ askP P o e es hf ss
noncomputable def asksP (P : Program) (ops : List GO) (es : List EntF) (hf : Heap) : List (Nat × List Nat) → Prop
  | [] => True
  | (p, ss) :: rest => askP P ops[p]? es[p]? es hf ss ∧ asksP P ops es hf rest
inductive RC where
  | bad
  | skip
  | reg (ops : List GO)
  | draw (ops : List GO) (asks : List (Nat × List Nat))
  | seq (a b : RC)
  | cond (c : RX) (a b : RC)
  | block (id : Nat) (b : RC)
  | loop (b : RC)
  | exit (id : Nat)
  | ret
def asksL (P : Program) (ops : List Oper) (masks poss starts : List Nat) : Nat → List Oper → List (Nat × List Nat)
  | _, [] => []
  | i, o :: os => bif looks o.op && !isEff P o.op then
      (posOf poss i, starts.filter (mayStand P masks ops poss i ((masks[i]?).getD 0))) :: asksL P ops masks poss starts (i + 1) os
    else asksL P ops masks poss starts (i + 1) os
def resDraw (P : Program) (nt : Nat) (ops : Array Oper) (order poss : List Nat) : RC :=
  bif permOk ops.size order poss && drawFine P ops poss then
    .draw (resOs P nt ops (opsAt ops order)) (bif anyEff P ops.toList then asksL P ops.toList (masksFrom [] ops.toList) poss (levelStarts P poss 0 ops.toList) 0 ops.toList else [])
  else .bad
def resK (P : Program) (nt : Nat) : Code → RC
  | .skip => .skip
  | .label _ => .skip
  | .region _ ops draw => bif draw then resDraw P nt ops (orderOf P ops) (possFrom (orderOf P ops) 0 ops.toList) else .reg (resOs P nt ops ops.toList)
  | .seq a b => .seq (resK P nt a) (resK P nt b)
  | .cond c a b => .cond (rx c) (resK P nt a) (resK P nt b)
  | .block id b => .block id (resK P nt b)
  | .loop b => .loop (resK P nt b)
  | .exit id => .exit id
  | .ret => .ret
  | .scope b => resK P nt b
  | _ => .bad
def Ex.andThen : Ex → Prop → Prop → Prop
  | .normal, A, _ => A
  | _, _, B => B
def Ex.leave (id : Nat) : Ex → Ex
  | .exit i => if i = id then .normal else .exit i
  | e => e
noncomputable def wpC (P : Program) : RC → RF → Heap → (Ex → RF → Heap → Prop) → Prop
  | .bad, _, _, _ => False
  | .skip, r, h, Q => Q .normal r h
  | .reg ops, r, h, Q => wpOs P ops r h (Q .normal)
  | .draw ops asks, r, h, Q => wpD P ops r h fun es rf hf => asksP P ops es hf asks ∧ Q .normal rf hf
  | .seq a b, r, h, Q => wpC P a r h fun e r' h' => e.andThen (wpC P b r' h' Q) (Q e r' h')
  | .cond c a b, r, h, Q => match c.ev r with
    | .bool t => (t = true → wpC P a r h Q) ∧ (t = false → wpC P b r h Q)
    | _ => False
  | .block id b, r, h, Q => wpC P b r h fun e r' h' => Q (e.leave id) r' h'
  | .loop b, r, h, Q => ∃ (I : RF → Heap → Prop) (μ : RF → Heap → Nat), I r h ∧ ∀ r h, I r h → wpC P b r h fun e r' h' => e.andThen (I r' h' ∧ μ r' h' < μ r h) (Q e r' h')
  | .exit id, r, h, Q => Q (.exit id) r h
  | .ret, r, h, Q => Q .ret r h
def CodeV (P : Program) (nt : Nat) (c : Code) (r : RF) (h : Heap) (e : Ex) (r' : RF) (h' : Heap) : Prop :=
  ∀ (rd : Option Nat) (D : List Deferred) (w0 : Fr) E a w, (rd = none ∨ noMark c = true) → RegF E nt D r a → Sim w0 E h w → ∀ Q : Exit → Act → World → Prop,
    (∀ E' a' w', E.le E' → RegF E' nt D r' a' → Sim w0 E' h' w' → Q (toExit e) a' w') → wpX rd P c Q a w
section
variable {P : Program} {nt : Nat}
theorem wpOs_sound (hN : NamesOk P) {all : Array Oper} : ∀ (l : List Oper) (i : Nat), (∀ j, l[j]? = all[i + j]?) → ∀ (r : RF) (h : Heap) (K : RF → Heap → Prop), Out nt r → wpOs P (resOs P nt all l) r h K →
    ∃ r' h', K r' h' ∧ Out nt r' ∧ ∀ (rd : Option Nat) (D : List Deferred) (w0 : Fr) E a w, RegF E nt D r a → Sim w0 E h w → ∀ Q : Exit → Act → World → Prop,
      (∀ E' a' w', E.le E' → RegF E' nt D r' a' → Sim w0 E' h' w' → Q .normal a' w') → wpOpsIn (Wd rd) 0 P all Q (List.range' i l.length) a w
  | [], i, _, r, h, K, ho, H => by
    refine ⟨r, h, H, ho, fun rd D w0 E a w k s Q hQ => ?_⟩
    simp only [List.length_nil, List.range'_zero, wpOpsIn]
    exact hQ E a w (Env.le.refl E) k s
  | o :: os, i, hl, r, h, K, ho, H => by
    have hi : all[i]? = some o := by have := hl 0; simpa using this.symm
    simp only [resOs, wpOs] at H
    obtain ⟨call, v, h1, hc, hd, H1, hrun⟩ := GO.wp_run H
    obtain ⟨r2, h2, q1, q2, q3⟩ := wpOs_sound hN os (i + 1) (fun j => by
      have := hl (j + 1)
      simp only [List.getElem?_cons_succ] at this
      rw [this]
      congr 1
      omega) _ h1 K (ho.set hd v) H1
    refine ⟨r2, h2, q1, q2, fun rd D w0 E a w k s Q hQ => ?_⟩
    obtain ⟨T', hT⟩ := exists_trie ho
    rw [List.length_cons, List.range'_succ, wpOpsIn_cons]
    refine dop_sound hN hc.1 hc.2 hi (hrun T' hT) k.size (fun t _ => ?_) s fun E' x w' p1 p2 p3 => ?_
    · have := congrFun hT t
      simp only [ofT] at this
      rw [this]
      exact k.reg t
    · exact q3 rd D w0 E' _ w' (k.put p1 hd p2) p3 Q fun E2 a2 w2 z1 z2 z3 => hQ E2 a2 w2 (p1.trans z1) z2 z3
noncomputable def toF (e : Ent) : EntF := ⟨ofT e.r, e.h, e.v⟩
theorem heapF_map (es : List Ent) (hf : Heap) (i : Nat) : heapF (es.map toF) hf i = heapAt es hf i := by
  unfold heapF heapAt
  rw [List.getElem?_map]
  cases es[i]? <;> rfl
theorem wpD_sound {all : Array Oper} : ∀ (l : List Oper) (T0 : Regs) (h : Heap) (K : List EntF → RF → Heap → Prop), wpD P (resOs P nt all l) (ofT T0) h K → Out nt (ofT T0) →
    ∃ es Tf hf, K (es.map toF) (ofT Tf) hf ∧ Out nt (ofT Tf) ∧ es.length = l.length ∧ heapAt es hf 0 = h ∧ regAt es Tf 0 = T0 ∧
      ∀ j o, l[j]? = some o → ∃ e call, es[j]? = some e ∧ (CallOk P call ∧ CallBody P call) ∧ (dopC P nt all o).run call e.r e.h = .val e.v (heapAt es hf (j + 1)) ∧ regAt es Tf (j + 1) = (putC o.dst).run e.r e.v
  | [], T0, h, K, H, ho => ⟨[], T0, h, H, ho, rfl, rfl, rfl, fun j o hj => by simp at hj⟩
  | o :: os, T0, h, K, H, ho => by
    simp only [resOs, wpD] at H
    obtain ⟨call, v, h1, hc, hd, H1, hrun⟩ := GO.wp_run H
    rw [← put_of] at H1
    obtain ⟨es, Tf, hf, q1, q2, q3, q4, q5, q6⟩ := wpD_sound os _ h1 _ H1 (by rw [put_of]; exact ho.set hd v)
    refine ⟨⟨T0, h, v⟩ :: es, Tf, hf, q1, q2, by simp [q3], by simp [heapAt], by simp [regAt], fun j o' hj => ?_⟩
    cases j with
    | zero =>
      simp only [List.getElem?_cons_zero, Option.some.injEq] at hj
      subst hj
      exact ⟨⟨T0, h, v⟩, call, rfl, hc, by rw [heapAt_succ, q4]; exact hrun T0 rfl, by rw [regAt_succ, q5]⟩
    | succ j =>
      obtain ⟨e, c, p1, p2, p3, p4⟩ := q6 j o' (by simpa using hj)
      exact ⟨e, c, by simpa using p1, p2, by rw [heapAt_succ]; exact p3, by rw [regAt_succ]; exact p4⟩
theorem askP_mem {o : Option GO} {e : Option EntF} {es : List EntF} {hf : Heap} : ∀ {ss : List Nat}, askP P o e es hf ss → ∀ s ∈ ss, ∃ o' e', o = some o' ∧ e = some e' ∧ o'.wp P e'.r (heapF es hf s) fun _ v' _ => v' = e'.v
  | [], _, s, h => by simp at h
  | s' :: ss, H, s, hm => by
    simp only [askP] at H
    simp only [List.mem_cons] at hm
    rcases hm with rfl | hm
    · cases o with
      | none => exact H.1.elim
      | some o =>
        cases e with
        | none => exact H.1.elim
        | some e => exact ⟨o, e, rfl, rfl, H.1⟩
    · exact askP_mem H.2 s hm
theorem asksL_mem {ops : List Oper} {masks poss starts : List Nat} {gs : List GO} {es : List EntF} {hf : Heap} : ∀ {l : List Oper} {i : Nat}, asksP P gs es hf (asksL P ops masks poss starts i l) → ∀ j o, l[j]? = some o → looks o.op = true → isEff P o.op = false →
    askP P gs[posOf poss (i + j)]? es[posOf poss (i + j)]? es hf (starts.filter (mayStand P masks ops poss (i + j) ((masks[i + j]?).getD 0)))
  | [], i, _, j, o, h, _, _ => by simp at h
  | o' :: os, i, H, j, o, h, h1, h2 => by
    simp only [asksL] at H
    cases j with
    | zero =>
      simp only [List.getElem?_cons_zero, Option.some.injEq] at h
      subst h
      rw [h1, h2] at H
      simp only [Bool.not_false, Bool.and_true, cond_true, asksP] at H
      exact H.1
    | succ j =>
      have H' : asksP P gs es hf (asksL P ops masks poss starts (i + 1) os) := by
        cases hc : (looks o'.op && !isEff P o'.op) with
        | true => rw [hc] at H; simp only [cond_true, asksP] at H; exact H.2
        | false => rw [hc] at H; exact H
      have := asksL_mem H' j o (by simpa using h) h1 h2
      rw [show i + 1 + j = i + (j + 1) from by omega] at this
      exact this
theorem draw_wp (hnt : nt ≤ top) (hM : P.follows .mixedOrders = true) (hN : NamesOk P) {id : Nat} {ops : Array Oper} {order poss : List Nat} {r : RF} {h : Heap} {Q : Ex → RF → Heap → Prop} (ho : Out nt r)
    (H : wpC P (resDraw P nt ops order poss) r h Q) : ∃ r' h', Q .normal r' h' ∧ Out nt r' ∧ CodeV P nt (.region id ops true) r h .normal r' h' := by
  unfold resDraw at H
  cases hf : (permOk ops.size order poss && drawFine P ops poss) with
  | false => rw [hf] at H; exact H.elim
  | true =>
    rw [hf] at H
    simp only [cond_true, wpC] at H
    simp only [Bool.and_eq_true] at hf
    obtain ⟨hperm, hfine⟩ := hf
    unfold permOk at hperm
    simp only [Bool.and_eq_true, Nat.beq_eq] at hperm
    obtain ⟨ho1, ho2, ho3, ho4⟩ := hperm
    have posLt : ∀ k, k < ops.size → posOf poss k < ops.size ∧ order[posOf poss k]? = some k := by
      intro k hk
      have hg : poss[k]? = some (posOf poss k) := by
        unfold posOf
        rw [List.getElem?_eq_getElem (by omega)]
        rfl
      have := permAt_get ho3 hg
      rw [Nat.zero_add] at this
      exact ⟨by have := (List.getElem?_eq_some_iff.1 this).1; omega, this⟩
    have ordAt : ∀ p, p < ops.size → ∃ i, i < ops.size ∧ posOf poss i = p := by
      intro p hp
      have hg : order[p]? = some (order[p]'(by omega)) := List.getElem?_eq_getElem (by omega)
      have := permAt_get ho4 hg
      rw [Nat.zero_add] at this
      refine ⟨order[p]'(by omega), by have := (List.getElem?_eq_some_iff.1 this).1; omega, ?_⟩
      unfold posOf
      rw [this]
      rfl
    obtain ⟨T0, hT0⟩ := exists_trie ho
    rw [← hT0] at H ho
    obtain ⟨es, Tf, hh, ⟨hasks, hQ⟩, hout, q1, q2, q3, q4⟩ := wpD_sound _ T0 h _ H ho
    refine ⟨_, hh, hQ, hout, fun rd D w0 E a w hr k s Q' hQ' => ?_⟩
    have step : ∀ i : Nat, ∃ call, (CallOk P call ∧ CallBody P call) ∧ ∀ o, ops[i]? = some o → ∃ e, es[posOf poss i]? = some e ∧ (dopC P nt ops o).run call e.r e.h = .val e.v (heapAt es hh (posOf poss i + 1)) ∧ regAt es Tf (posOf poss i + 1) = (putC o.dst).run e.r e.v := by
      intro i
      cases hi : ops[i]? with
      | none => exact ⟨nocall, nocall_ok P, fun o h => by cases h⟩
      | some o =>
        obtain ⟨e, call, p1, p2, p3, p4⟩ := q4 _ o (opsAt_get (posLt i (Array.getElem?_eq_some_iff.1 hi).1).2 hi)
        exact ⟨call, p2, fun o' ho' => by cases ho'; exact ⟨e, p1, p3, p4⟩⟩
    obtain ⟨calls, hcalls⟩ := Classical.axiomOfChoice step
    have hask : ∀ j o, ops[j]? = some o → looks o.op = true → isEff P o.op = false → ∃ e, es[posOf poss j]? = some e ∧ ∀ s ∈ levelStarts P poss 0 ops.toList,
        mayStand P (masksFrom [] ops.toList) ops.toList poss j (((masksFrom [] ops.toList)[j]?).getD 0) s = true → ∃ c h', (CallOk P c ∧ CallBody P c) ∧ (dopC P nt ops o).run c e.r (heapAt es hh s) = .val e.v h' := by
      intro j o hjo hlo hef
      have hj := (Array.getElem?_eq_some_iff.1 hjo).1
      obtain ⟨e, p1, p2, p3⟩ := (hcalls j).2 o hjo
      refine ⟨e, p1, fun s hs hm => ?_⟩
      cases hl : anyEff P ops.toList with
      | true =>
        rw [hl] at hasks
        simp only [cond_true] at hasks
        have := asksL_mem hasks j o (by simpa using hjo) hlo hef
        rw [Nat.zero_add] at this
        obtain ⟨o', e', z1, z2, z3⟩ := askP_mem this s (List.mem_filter.2 ⟨hs, hm⟩)
        rw [resOs_map, List.getElem?_map, opsAt_get (posLt j hj).2 hjo] at z1
        simp only [Option.map_some, Option.some.injEq] at z1
        rw [List.getElem?_map, p1] at z2
        simp only [Option.map_some, Option.some.injEq] at z2
        subst z1; subst z2
        rw [heapF_map] at z3
        obtain ⟨c, v, h', y1, _, y3, y4⟩ := GO.wp_run z3
        have y4' := y4 e.r rfl
        rw [show v = e.v from y3] at y4'
        exact ⟨c, h', y1, y4'⟩
      | false =>
        have none : ∀ (l : List Oper), anyEff P l = false → ∀ (j : Nat) (o : Oper), l[j]? = some o → isEff P o.op = false := by
          intro l
          induction l with
          | nil => intro _ j o h; simp at h
          | cons x l ih =>
            intro h j o ho
            simp only [anyEff, Bool.or_eq_false_iff] at h
            cases j with
            | zero => simp only [List.getElem?_cons_zero, Option.some.injEq] at ho; subst ho; exact h.1
            | succ j => exact ih h.2 j o (by simpa using ho)
        have hs' : s = ops.size := by
          rcases levelStarts_spec hs with h | ⟨j', o', h1, h2, h3⟩
          · simpa using h
          · have := none _ hl j' o' h1
            unfold isChain at h2
            rw [this] at h2
            cases h2
        have flat : ∀ d, d ≤ ops.size → heapAt es hh d = heapAt es hh 0 := by
          intro d
          induction d with
          | zero => intro _; rfl
          | succ d ih =>
            intro hd
            obtain ⟨i, hi1, hi2⟩ := ordAt d (by omega)
            have hio : ops[i]? = some ops[i] := Array.getElem?_eq_getElem hi1
            obtain ⟨ed, w1, w2, _⟩ := (hcalls i).2 ops[i] hio
            rw [hi2] at w1 w2
            have hne : isEff P ops[i].op = false := none _ hl i _ (by simp)
            rw [(dop_quiet hne w2).1, ← ih (by omega)]
            simp [heapAt, w1]
        have hpj := (posLt j hj).1
        have : e.h = heapAt es hh s := by rw [hs', flat ops.size (Nat.le_refl _), ← flat (posOf poss j) (by omega)]; simp [heapAt, p1]
        rw [← this]
        exact ⟨_, _, (hcalls j).1, p2⟩
    have hlen : es.length = ops.size := by rw [q1, opsAt_length, ho1]
    have C : Cert P nt ops calls es T0 h Tf hh (levelStarts P poss 0 ops.toList) order poss ops.size ops.size false :=
      ⟨hlen, Nat.le_refl _, Nat.le_refl _, posLt, ordAt, q2, q3, fun i o hio _ => (hcalls i).2 o hio,
        fun i o hio => by
          obtain ⟨mi, z1, z2, z3⟩ := drawFine_spec hfine i o hio
          exact ⟨mi, z1, z2, fun _ k ok hk _ => by
            obtain ⟨mk, y1, y2, y3⟩ := z3 k ok hk
            exact ⟨mk, y1, y2, fun e1 e2 e3 => .inl (y3 e1 e2 e3)⟩⟩,
        by simpa using levelStarts_end (P := P) (poss := poss) (l := ops.toList) (i := 0),
        fun j o h1 h2 => by simpa using levelStarts_mem (poss := poss) (i := 0) (j := j) (l := ops.toList) (by simpa using h1) h2,
        fun s hs => by
          rcases levelStarts_spec hs with h | ⟨j, o, h1, h2, h3⟩
          · exact .inl (.inl (by simpa using h))
          · exact .inr ⟨j, o, by simpa using h1, h2, by simpa using h3⟩,
        fun j o h1 h2 h3 _ => hask j o h1 h2 h3, fun h => absurd h (Nat.lt_irrefl _), fun h => absurd h (Nat.lt_irrefl _)⟩
    have hk : RegRel0 E nt T0 a := ⟨k.size, fun t _ => by
      have := congrFun hT0 t
      simp only [ofT] at this
      rw [this]
      exact k.reg t⟩
    have hnone : ∀ k, ¬ (Array.replicate ops.size false).getD k false = true := by
      intro k
      rw [getD_iff, Array.getElem?_replicate]
      split <;> simp
    have hheld : Holds w0 w0 es hh poss (Held ops es hh poss (Array.replicate ops.size false) 0) :=
      ⟨rfl, fun _ _ => rfl, fun k hk => (by obtain ⟨_, _, _, _, h0⟩ := hk; omega), fun k k' hk => (by obtain ⟨_, _, _, _, h0⟩ := hk; omega)⟩
    obtain ⟨s', F', g1, g2, g3, g4, g5, g6⟩ := C.advance ops.size 0 (by omega) (fun k o _ _ _ => hnone k) w0 hheld (E := E) (w := { w with drawn := w.drawn }) (by rw [q2]; exact s.same rfl rfl rfl rfl)
    have fin : ∀ E' a' w', E.le E' → RegRel0 E' nt Tf a' → a'.defers = D → Sim w0 E' hh w' → Q' .normal a' w' := by
      intro E' a' w' z1 z2 zd z3
      refine hQ' E' a' w' z1 ⟨z2.size, zd, fun t => ?_⟩ z3
      by_cases ht : t ≤ top
      · exact z2.reg t ht
      · have hsz := z2.size
        rw [hout t (by omega)]
        simp [Rel]
    refine wpAnyIn_region hM (draw_any hN (fun i => (hcalls i).1.1) (fun i => (hcalls i).1.2) C (E0 := E) (D := D) (fun _ => fin)
      (fun _ _ _ _ _ _ _ h => absurd h (Nat.lt_irrefl _)) (fun h => absurd h (Nat.lt_irrefl _)) ops.size _ a _ ?_ ?_)
    · exact Nat.le_trans List.countP_le_length (by simp)
    · refine ⟨by simp, hk.size, k.defers, fun k' hk => absurd hk (hnone k'), fun k' o e hk => absurd hk (hnone k'), E, s', F', Env.le.refl E, g1, g3, fun k' o h1 h2 => ⟨fun h => absurd h (hnone k'), fun h => by have := g4 k' o h1 h2 (Nat.zero_le _); omega⟩,
        fun k' o _ _ h => absurd h (hnone k'), g5, ?_, fun t ht => .inr ⟨fun k' o hk => absurd hk (hnone k'), hk.reg t ht⟩⟩
      exact g6.same rfl rfl rfl rfl
theorem wpC_sound (hnt : nt ≤ top) (hM : P.follows .mixedOrders = true) (hN : NamesOk P) : ∀ (c : Code) (r : RF) (h : Heap) (Q : Ex → RF → Heap → Prop), Out nt r → wpC P (resK P nt c) r h Q →
    ∃ e r' h', Q e r' h' ∧ Out nt r' ∧ CodeV P nt c r h e r' h' := by
  intro c
  induction c with
  | skip =>
    intro r h Q ho H
    exact ⟨.normal, r, h, H, ho, fun rd D w0 E a w hr k s Q' hQ => wpIn_skip (hQ E a w (Env.le.refl E) k s)⟩
  | label l =>
    intro r h Q ho H
    exact ⟨.normal, r, h, H, ho, fun rd D w0 E a w hr k s Q' hQ => wpIn_label (hQ E a w (Env.le.refl E) k s)⟩
  | exit id =>
    intro r h Q ho H
    exact ⟨.exit id, r, h, H, ho, fun rd D w0 E a w hr k s Q' hQ => wpIn_exit (hQ E a w (Env.le.refl E) k s)⟩
  | ret =>
    intro r h Q ho H
    exact ⟨.ret, r, h, H, ho, fun rd D w0 E a w hr k s Q' hQ => wpIn_ret (hQ E a w (Env.le.refl E) k s)⟩
  | region id ops draw =>
    intro r h Q ho H
    cases draw with
    | true =>
      simp only [resK, cond_true] at H
      obtain ⟨r', h', q1, q2, q3⟩ := draw_wp hnt hM hN (id := id) ho H
      exact ⟨.normal, r', h', q1, q2, q3⟩
    | false =>
      simp only [resK, cond_false, wpC] at H
      obtain ⟨r', h', q1, q2, q3⟩ := wpOs_sound hN ops.toList 0 (fun j => by simp) r h _ ho H
      refine ⟨.normal, r', h', q1, q2, fun rd D w0 E a w hr k s Q' hQ => ?_⟩
      refine wpIn_region ?_
      have := q3 rd D w0 E a w k s Q' hQ
      rw [List.range_eq_range']
      simpa using this
  | seq x y ihx ihy =>
    intro r h Q ho H
    simp only [resK, wpC] at H
    obtain ⟨e, r1, h1, q1, q2, q3⟩ := ihx r h _ ho H
    cases e with
    | normal =>
      obtain ⟨e, r2, h2, p1, p2, p3⟩ := ihy r1 h1 Q q2 q1
      refine ⟨e, r2, h2, p1, p2, fun rd D w0 E a w hr k s Q' hQ => ?_⟩
      refine wpIn_seq (q3 rd D w0 E a w (hr.imp (fun h => h) fun h => by simp only [noMark, Bool.and_eq_true] at h; exact h.1) k s _ fun E' a' w' z1 z2 z3 => ?_).wp
      exact (p3 rd D w0 E' a' w' (hr.imp (fun h => h) fun h => by simp only [noMark, Bool.and_eq_true] at h; exact h.2) z2 z3 Q' fun E2 a2 w2 y1 y2 y3 => hQ E2 a2 w2 (z1.trans y1) y2 y3).wp
    | exit i =>
      refine ⟨.exit i, r1, h1, q1, q2, fun rd D w0 E a w hr k s Q' hQ => ?_⟩
      refine wpIn_seq (q3 rd D w0 E a w (hr.imp (fun h => h) fun h => by simp only [noMark, Bool.and_eq_true] at h; exact h.1) k s _ fun E' a' w' z1 z2 z3 => ?_).wp
      exact hQ E' a' w' z1 z2 z3
    | ret =>
      refine ⟨.ret, r1, h1, q1, q2, fun rd D w0 E a w hr k s Q' hQ => ?_⟩
      refine wpIn_seq (q3 rd D w0 E a w (hr.imp (fun h => h) fun h => by simp only [noMark, Bool.and_eq_true] at h; exact h.1) k s _ fun E' a' w' z1 z2 z3 => ?_).wp
      exact hQ E' a' w' z1 z2 z3
  | cond c x y ihx ihy =>
    intro r h Q ho H
    simp only [resK, wpC] at H
    cases hv : (rx c).ev r <;> rw [hv] at H <;> simp only at H <;> try (exact H.elim)
    rename_i t
    have hc : ∀ E D a, RegF E nt D r a → a.eval c = .bool t := by
      intro E D a k
      cases c with
      | tmp d =>
        simp only [rx] at hv
        cases hb : Nat.ble d top with
        | false => rw [hb] at hv; simp [RX.ev] at hv
        | true =>
          rw [hb] at hv
          simp only [cond_true, RX.ev] at hv
          have := k.reg d
          rw [hv] at this
          simp only [Rel] at this
          exact this
      | const v =>
        simp only [rx, RX.ev] at hv
        have := ofVal_rel E v
        rw [hv] at this
        simp only [Rel] at this
        exact this
      | func f =>
        simp only [rx] at hv
        cases hb : Nat.beq f yieldId <;> rw [hb] at hv <;> simp [RX.ev] at hv
      | global g => simp [rx, RX.ev] at hv
    cases t with
    | true =>
      obtain ⟨e, r1, h1, q1, q2, q3⟩ := ihx r h Q ho (H.1 rfl)
      exact ⟨e, r1, h1, q1, q2, fun rd D w0 E a w hr k s Q' hQ => wpIn_cond_true (hc E D a k) (q3 rd D w0 E a w (hr.imp (fun h => h) fun h => by simp only [noMark, Bool.and_eq_true] at h; exact h.1) k s Q' hQ).wp⟩
    | false =>
      obtain ⟨e, r1, h1, q1, q2, q3⟩ := ihy r h Q ho (H.2 rfl)
      exact ⟨e, r1, h1, q1, q2, fun rd D w0 E a w hr k s Q' hQ => wpIn_cond_false (hc E D a k) (q3 rd D w0 E a w (hr.imp (fun h => h) fun h => by simp only [noMark, Bool.and_eq_true] at h; exact h.2) k s Q' hQ).wp⟩
  | block id x ih =>
    intro r h Q ho H
    simp only [resK, wpC] at H
    obtain ⟨e, r1, h1, q1, q2, q3⟩ := ih r h _ ho H
    refine ⟨e.leave id, r1, h1, q1, q2, fun rd D w0 E a w hr k s Q' hQ => ?_⟩
    refine wpIn_block (q3 rd D w0 E a w (hr.imp (fun h => h) fun h => h) k s _ fun E' a' w' z1 z2 z3 => ?_).wp
    cases e with
    | normal => exact hQ E' a' w' z1 z2 z3
    | ret => exact hQ E' a' w' z1 z2 z3
    | exit i =>
      have := hQ E' a' w' z1 z2 z3
      simp only [toExit, Exit.inBlock]
      simp only [Ex.leave] at this
      by_cases hi : i = id
      · rw [if_pos hi] at this ⊢; exact this
      · rw [if_neg hi] at this ⊢; exact this
  | loop x ih =>
    intro r h Q ho H
    simp only [resK, wpC] at H
    obtain ⟨I, μ, hI, hround⟩ := H
    have key : ∀ n r h, μ r h = n → I r h → Out nt r → ∃ e r' h', Q e r' h' ∧ Out nt r' ∧ CodeV P nt (.loop x) r h e r' h' := by
      intro n
      induction n using Nat.strongRecOn with
      | _ n ihn =>
        intro r h hn hI ho
        obtain ⟨e, r1, h1, q1, q2, q3⟩ := ih r h _ ho (hround r h hI)
        have body : ∀ (rd : Option Nat) (D : List Deferred) (w0 : Fr) E a w, (rd = none ∨ noMark x = true) → RegF E nt D r a → Sim w0 E h w → ∀ (b : Frame) (kk : List Item) (cs : List Frame), b.roundOf = rd → ∃ a' w' E', E.le E' ∧ RegF E' nt D r1 a' ∧ Sim w0 E' h1 w' ∧ ArrivesIn (Machine.fenced P (Wd rd)) P (lone (b.atR a (.code x :: .inLoop x :: kk)) cs w) b (.inLoop x :: kk) cs (toExit e) a' w' := by
          intro rd D w0 E a w hr k s b kk cs hro
          have := (q3 rd D w0 E a w hr k s (fun e' a' w' => e' = toExit e ∧ ∃ E', E.le E' ∧ RegF E' nt D r1 a' ∧ Sim w0 E' h1 w') (fun E' a' w' q1 q2 q3 => ⟨rfl, E', q1, q2, q3⟩)).wp b (.inLoop x :: kk) cs hro trivial (room_wd _)
          obtain ⟨e2, a2, w2, ⟨rfl, E2, z1, z2, z3⟩, harr⟩ := this
          exact ⟨a2, w2, E2, z1, z2, z3, harr⟩
        cases e with
        | normal =>
          obtain ⟨hI1, hlt⟩ := q1
          obtain ⟨e2, r2, h2, p1, p2, p3⟩ := ihn (μ r1 h1) (hn ▸ hlt) r1 h1 rfl hI1 q2
          refine ⟨e2, r2, h2, p1, p2, fun rd D w0 E a w hr k s Q' hQ b kk cs hro => ?_⟩
          obtain ⟨a2, w2, E2, z1, z2, z3, harr⟩ := body rd D w0 E a w (hr.imp (fun h => h) fun h => h) k s b kk cs hro
          obtain ⟨e3, a3, w3, y1, y2⟩ := p3 rd D w0 E2 a2 w2 hr z2 z3 Q' (fun E4 a4 w4 t1 t2 t3 => hQ E4 a4 w4 (z1.trans t1) t2 t3) b kk cs hro
          exact ⟨e3, a3, w3, y1, .of_steps (StepsIn.trans harr (.one (fenced_wd _) stepR_inLoop)) y2⟩
        | exit i =>
          refine ⟨.exit i, r1, h1, q1, q2, fun rd D w0 E a w hr k s Q' hQ b kk cs hro => ?_⟩
          obtain ⟨a2, w2, E2, z1, z2, z3, harr⟩ := body rd D w0 E a w (hr.imp (fun h => h) fun h => h) k s b kk cs hro
          exact ⟨.exit i, a2, w2, hQ E2 a2 w2 z1 z2 z3, .pass (x := .inLoop x) rfl (fun _ _ => .inl (by simp)) harr⟩
        | ret =>
          refine ⟨.ret, r1, h1, q1, q2, fun rd D w0 E a w hr k s Q' hQ b kk cs hro => ?_⟩
          obtain ⟨a2, w2, E2, z1, z2, z3, harr⟩ := body rd D w0 E a w (hr.imp (fun h => h) fun h => h) k s b kk cs hro
          exact ⟨.ret, a2, w2, hQ E2 a2 w2 z1 z2 z3, .pass (x := .inLoop x) rfl (fun _ _ => .inl (by simp)) harr⟩
    exact key _ r h rfl hI ho
  | scope x ih =>
    intro r h Q ho H
    obtain ⟨e, r1, h1, q1, q2, q3⟩ := ih r h Q ho H
    refine ⟨e, r1, h1, q1, q2, fun rd D w0 E a w hr k s Q' hQ => ?_⟩
    refine scopeIn (q3 rd D w0 E a w (hr.imp (fun h => h) fun h => h) k s _ fun E' a' w' z1 z2 z3 => ?_).wp
    have := hQ E' a' w' z1 z2 z3
    cases e <;> exact this
  | rangeFunc f ps x y _ _ => intro r h Q ho H; exact H.elim
  | goto l => intro r h Q ho H; exact H.elim
  | refuse why => intro r h Q ho H; exact H.elim
inductive RR' where
  | t (n : Nat)
  | c1 (n : Nat)
  | cn (n size : Nat)
  | bad
def resR (P : Program) (nt : Nat) : List ResultVar → List RR'
  | [] => []
  | .tmp t :: rs => (bif Nat.ble t top && Nat.blt t nt then .t t else .bad) :: resR P nt rs
  | .cell a t :: rs => (bif Nat.ble a top && Nat.blt a nt then (match tiOf P t with
    | none => .bad
    | some ti => bif ti.agg then .cn a ti.size else bif Nat.beq ti.size 1 then .c1 a else .bad) else .bad) :: resR P nt rs
noncomputable def evR (r : RF) (h : Heap) : List RR' → Option (List V)
  | [] => some []
  | x :: xs => match (match x with
    | .t n => some (r n)
    | .c1 n => loadOne h (r n)
    | .cn n size => loadMany size h (r n)
    | .bad => none) with
    | none => none
    | some v => match evR r h xs with
      | none => none
      | some vs => some (v :: vs)
theorem evR_run {r : RF} {h : Heap} {T' : Regs} (hT : ofT T' = r) : ∀ {l : List ResultVar} {vs : List V}, evR r h (resR P nt l) = some vs → (resC P nt l).run T' h = some vs
  | [], vs, he => by simpa [evR, resR, resC] using he
  | .tmp t :: rs, vs, he => by
    simp only [resR, evR] at he
    unfold resC
    cases hc : (Nat.ble t top && Nat.blt t nt) with
    | false => rw [hc] at he; simp at he
    | true =>
      rw [hc] at he
      simp only [cond_true] at he ⊢
      cases hr : evR r h (resR P nt rs) with
      | none => rw [hr] at he; cases he
      | some vs' =>
        rw [hr] at he
        rw [evR_run hT hr]
        have := congrFun hT t
        simp only [ofT] at this
        rw [this]
        exact he
  | .cell a t :: rs, vs, he => by
    simp only [resR, evR] at he
    unfold resC
    cases hc : (Nat.ble a top && Nat.blt a nt) with
    | false => rw [hc] at he; simp at he
    | true =>
      rw [hc] at he
      simp only [cond_true] at he ⊢
      have hra := congrFun hT a
      simp only [ofT] at hra
      rw [hra]
      unfold loadC
      cases ht : tiOf P t with
      | none => rw [ht] at he; simp at he
      | some ti =>
        rw [ht] at he
        simp only at he ⊢
        cases hag : ti.agg with
        | true =>
          rw [hag] at he
          simp only [cond_true] at he ⊢
          cases hl : loadMany ti.size h (r a) with
          | none => rw [hl] at he; cases he
          | some v =>
            rw [hl] at he
            simp only at he ⊢
            cases hr : evR r h (resR P nt rs) with
            | none => rw [hr] at he; cases he
            | some vs' => rw [hr] at he; rw [evR_run hT hr]; exact he
        | false =>
          rw [hag] at he
          simp only [cond_false] at he ⊢
          cases hs : Nat.beq ti.size 1 with
          | false => rw [hs] at he; simp at he
          | true =>
            rw [hs] at he
            simp only [cond_true] at he ⊢
            cases hl : loadOne h (r a) with
            | none => rw [hl] at he; cases he
            | some v =>
              rw [hl] at he
              simp only at he ⊢
              cases hr : evR r h (resR P nt rs) with
              | none => rw [hr] at he; cases he
              | some vs' => rw [hr] at he; rw [evR_run hT hr]; exact he
theorem ofL_get : ∀ (l : List V) (t : Nat), RF.ofL l t = (l[t]?).getD .bad
  | [], t => by simp [RF.ofL]
  | v :: vs, t => by
    simp only [RF.ofL]
    cases t with
    | zero => simp
    | succ t => simp [ofL_get vs t]
def Ex.ends : Ex → Prop
  | .exit _ => False
  | _ => True
theorem ctr_of_wp (hM : P.follows .mixedOrders = true) (hN : NamesOk P) {f : FuncId} {fn : Func} {c : Code} {args : List V} {h : Heap} {K : V → Heap → Prop} (hf : P.funcs[f]? = some fn) (hb : fn.body = some c)
    (hnt : Nat.ble fn.ntmps top = true) (hy : Nat.beq f yieldId = false) (hal : Nat.ble args.length fn.ntmps = true) {rc : RC} {rr : List RR'} (hrc : resK P fn.ntmps c = rc) (hrr : resR P fn.ntmps fn.results.toList = rr)
    (H : wpC P rc (RF.ofL args) h fun e r h' => e.ends ∧ ∃ vs, evR r h' rr = some vs ∧ K (oneOf vs) h') : Ctr P f args h K := by
  subst hrc hrr
  rw [Nat.ble_eq] at hnt hal
  have ho : Out fn.ntmps (RF.ofL args) := by
    intro t ht
    rw [ofL_get, List.getElem?_eq_none (by omega)]
    rfl
  obtain ⟨e, r', h', ⟨hend, vs, hvs, hK⟩, hout, hcode⟩ := wpC_sound hnt hM hN c _ h _ ho H
  have hy' : f ≠ yieldId := fun e => by subst e; simp at hy
  refine ⟨oneOf vs, h', ⟨hy', .inl ⟨⟨fn, hf, by rw [hb]; rfl⟩, fun w0 E w xs hx s => ?_⟩⟩, hK⟩
  have hlen := hx.length
  have hsz : xs.toArray.size ≤ fn.ntmps := by simp; omega
  refine callsIn_wd.1 (callsIn_of_wp_marks (F := Wd none) (n := 0) hf hb trivial ?_)
  have k : RegF E fn.ntmps [] (RF.ofL args) { tmps := xs.toArray ++ Array.replicate (fn.ntmps - xs.toArray.size) undef, defers := [] } := by
    refine ⟨by simp; omega, rfl, fun t => ?_⟩
    rw [ofL_get]
    cases hg : args[t]? with
    | none => simp [Rel]
    | some v =>
      obtain ⟨y, hy, hr⟩ := hx.get t v hg
      simp only [Option.getD_some]
      have htl : t < xs.length := (List.getElem?_eq_some_iff.1 hy).1
      rw [Array.getD_eq_getD_getElem?, Array.getElem?_append_left (by simpa using htl)]
      simp only [List.getElem?_toArray, hy, Option.getD_some]
      exact hr
  have hdf : DefOk P (fun _ _ _ _ => .fail) := fun f args u h u' h' he => by cases he
  have fin : ∀ E' a' w', E.le E' → RegF E' fn.ntmps [] r' a' → Sim w0 E' h' w' → LeavesInM (Wd none) 0 P fn a'.tmps (fun e w' => ∃ E' x, e = .returned x ∧ E.le E' ∧ Rel E' (oneOf vs) x ∧ Sim w0 E' h' w') a'.defers .returning w' := by
    intro E' a' w' q1 q2 q3
    obtain ⟨T', hT⟩ := exists_trie hout
    have hd : T.get .bad dslot T' = .bad := by
      have := congrFun hT 17179869185
      simp only [ofT] at this
      rw [show dslot = pa 17179869185 from rfl, this]
      exact hout _ (by unfold top at hnt; omega)
    have hk : RegRel E' fn.ntmps T' a' := ⟨⟨q2.size, fun t _ => by
      have := congrFun hT t
      simp only [ofT] at this
      rw [this]
      exact q2.reg t⟩, by rw [hd, q2.defers]; simp [DRel]⟩
    refine finish_sound (C := ⟨P, fun _ => none, fun _ => none⟩) (u := none) hN hdf hk rfl q3 ?_
    rw [hd]
    simp only [V.list, leaveL, finish]
    rw [evR_run hT hvs]
    exact fun E2 x w2 p1 p2 p3 => ⟨E2, x, rfl, q1.trans p1, p2, p3⟩
  refine (hcode none [] w0 E _ w (.inl rfl) k s _ fun E' a' w' q1 q2 q3 => ?_).wp
  have := fin E' a' w' q1 q2 q3
  cases e with
  | normal => exact this
  | ret => exact this
  | exit i => exact hend.elim
end
end Go.Proofs.YtigflhomnoledaaGreatDoor.Am
namespace Go.Proofs.YtigflhomnoledaaGreatDoor.Am
variable [Lay]
open Go Go.RowKit
theorem pa_eq (i j : Nat) : (pa i = pa j) = (i = j) := by
  apply propext
  exact ⟨pa_inj, fun h => by rw [h]⟩
theorem puts_put (vs : List V) : ∀ (i off : Nat) (x : V) (t : T V), i < off → T.put .bad x (pa i) (puts t off vs) = puts (T.put .bad x (pa i) t) off vs := by
  induction vs with
  | nil => intro i off x t _; rfl
  | cons v vs ih =>
    intro i off x t h
    simp only [puts]
    rw [ih i (off + 1) x _ (by omega), T.put_comm _ _ _ _ _ _ (fun e => by rw [pa_eq] at e; omega)]
def splice (vs : List V) (off : Nat) (ws : List V) : List V := vs.take off ++ ws ++ vs.drop (off + ws.length)
theorem puts_set : ∀ (vs : List V) (base i : Nat) (x : V) (t : T V), i < vs.length → T.put .bad x (pa (base + i)) (puts t base vs) = puts t base (vs.set i x)
  | [], _, i, _, _, h => by simp at h
  | v :: vs, base, i, x, t, h => by
    cases i with
    | zero =>
      simp only [puts, Nat.add_zero, List.set]
      rw [puts_put vs base (base + 1) x _ (by omega), T.put_put]
    | succ i =>
      simp only [puts, List.set]
      have := puts_set vs (base + 1) i x (T.put .bad v (pa base) t) (by simpa using h)
      rw [show base + (i + 1) = base + 1 + i from by omega]
      exact this
theorem set_splice (vs : List V) (off : Nat) (w : V) (ws : List V) (h : off < vs.length) : splice (vs.set off w) (off + 1) ws = splice vs off (w :: ws) := by
  unfold splice
  have h1 : (vs.set off w).take (off + 1) = vs.take off ++ [w] := by
    rw [List.take_succ_eq_append_getElem (by simpa using h)]
    simp [List.take_set_of_le]
  have h2 : (vs.set off w).drop (off + 1 + ws.length) = vs.drop (off + (w :: ws).length) := by
    rw [List.drop_set_of_lt (by omega)]
    congr 1
    simp
    omega
  rw [h1, h2]
  simp
theorem splice_length (vs : List V) (off : Nat) (ws : List V) (h : off + ws.length ≤ vs.length) : (splice vs off ws).length = vs.length := by
  unfold splice
  simp
  omega
theorem puts_splice : ∀ (ws vs : List V) (off : Nat), off + ws.length ≤ vs.length → puts (puts .e 0 vs) off ws = puts .e 0 (splice vs off ws)
  | [], vs, off, h => by simp [puts, splice]
  | w :: ws, vs, off, h => by
    simp only [List.length_cons] at h
    simp only [puts]
    have h1 := puts_set vs 0 off w .e (by omega)
    rw [Nat.zero_add] at h1
    rw [h1, puts_splice ws (vs.set off w) (off + 1) (by simp; omega), set_splice vs off w ws (by omega)]
theorem get_puts (vs : List V) : ∀ (off i : Nat) (t : T V), T.get .bad (pa (off + i)) (puts t off vs) = if i < vs.length then (vs[i]?).getD .bad else T.get .bad (pa (off + i)) t := by
  induction vs with
  | nil => intro off i t; simp [puts]
  | cons v vs ih =>
    intro off i t
    simp only [puts]
    cases i with
    | zero =>
      have : ∀ (ws : List V) (o : Nat) (s : T V), off < o → T.get .bad (pa off) (puts s o ws) = T.get .bad (pa off) s := by
        intro ws
        induction ws with
        | nil => intro o s _; rfl
        | cons w ws ihw =>
          intro o s ho
          simp only [puts]
          rw [ihw (o + 1) _ (by omega), T.get_put, if_neg (fun e => by rw [pa_eq] at e; omega)]
      rw [Nat.add_zero, this vs (off + 1) _ (by omega), T.get_put]
      simp
    | succ i =>
      have := ih (off + 1) i (T.put .bad v (pa off) t)
      rw [show off + 1 + i = off + (i + 1) from by omega] at this
      rw [this, T.get_put]
      have hne : ¬ pa off = pa (off + (i + 1)) := fun e => by rw [pa_eq] at e; omega
      rw [if_neg hne]
      simp
theorem gets_eq (vs : List V) : ∀ (n i : Nat), i + n ≤ vs.length → gets (puts .e 0 vs) i n = (vs.drop i).take n
  | 0, i, h => by simp [gets]
  | n + 1, i, h => by
    simp only [gets]
    have h1 := get_puts vs 0 i .e
    rw [Nat.zero_add] at h1
    rw [h1, if_pos (by omega), gets_eq vs n (i + 1) (by omega)]
    have hd : vs.drop i = vs[i] :: vs.drop (i + 1) := List.drop_eq_getElem_cons (by omega)
    rw [hd, List.take_succ_cons]
    simp [List.getElem?_eq_getElem (by omega : i < vs.length)]
noncomputable def Blk.ofL (vs : List V) (esz : Nat) (st : Bool) : Blk := .cells vs.length (puts .e 0 vs) esz st
noncomputable def Blk.ro (vs : List V) : Blk := .view vs.length (puts .e 0 vs)
def Rd (h : Heap) (b : Pa) (vs : List V) : Prop := h.get b = .ro vs ∨ ∃ esz st, h.get b = .ofL vs esz st
theorem newCells_eq {h : Heap} {vs : List V} (hl : vs.length ≤ top) : newCells h vs = some (h.new (.ofL vs 0 false)) := by
  unfold newCells
  rw [show Nat.ble vs.length top = true from by rw [Nat.ble_eq]; exact hl]
  rfl
theorem next_new (h : Heap) (k : Blk) : (h.new k).next = h.next + 1 := rfl
theorem next_set (h : Heap) (b : Pa) (k : Blk) : (h.set b k).next = h.next := rfl
section
variable {P : Program} {r : RF} {h : Heap}
theorem set_get (r : RF) (d : Nat) (v : V) (t : Nat) : RF.set r (some d) v t = if t = d then v else r t := (rfl)
theorem set_no (r : RF) (v : V) : RF.set r none v = r := (rfl)
theorem trim_get (r : RF) (u : Nat) (us : List Nat) (t : Nat) : RF.trim r (u :: us) t = if t = u then r t else RF.trim r us t := (rfl)
theorem ofL_hd (v : V) (vs : List V) : RF.ofL (v :: vs) 0 = v := (rfl)
theorem ofL_tl (v : V) (vs : List V) (t : Nat) : RF.ofL (v :: vs) (t + 1) = RF.ofL vs t := by simp [RF.ofL]
theorem ev_t (r : RF) (n : Nat) : RX.ev r (.t n) = r n := (rfl)
theorem ev_c (r : RF) (v : V) : RX.ev r (.c v) = v := (rfl)
theorem o_plain {d : Option Nat} {g : G} {rs : List Nat} {K : RF → V → Heap → Prop} : GO.wp P ⟨d, g, none, rs⟩ r h K = g.wp P (r.trim rs) h fun v h' => K (r.set d v) v h' := (rfl)
theorem o_gate {d : Option Nat} {g : G} {j : Nat} {want : Bool} {rs : List Nat} {K : RF → V → Heap → Prop} : GO.wp P ⟨d, g, some (j, want), rs⟩ r h K =
    gate (r.trim rs j) want (g.wp P (r.trim rs) h fun v h' => K (r.set d v) v h') (K (r.set d (.tuple [])) (.tuple []) h) := (rfl)
variable {K : V → Heap → Prop}
theorem eqKind_self (k : IntKind) : eqKind k k = true := by cases k <;> rfl
theorem leB_dec (a b : Int) : Int.leB a b = decide (a ≤ b) := leB_eq a b
theorem eqB_dec (a b : Int) : Int.eqB a b = decide (a = b) := by rw [eqB_eq]; rfl
variable (k : IntKind) (a b : Int)
theorem k_add : (BK.int .add).run P (.int k a) (.int k b) = some (.int k (k.wrap (a + b))) := by simp [BK.run, intC, intI, V.onInt, eqKind_self]
theorem k_sub : (BK.int .sub).run P (.int k a) (.int k b) = some (.int k (k.wrap (a - b))) := by simp [BK.run, intC, intI, V.onInt, eqKind_self]
theorem k_mul : (BK.int .mul).run P (.int k a) (.int k b) = some (.int k (k.wrap (a * b))) := by simp [BK.run, intC, intI, V.onInt, eqKind_self]
theorem k_eql : (BK.int .eql).run P (.int k a) (.int k b) = some (.bool (decide (a = b))) := by simp [BK.run, intC, intB, V.onInt, eqKind_self, eqB_dec]
theorem k_neq : (BK.int .neq).run P (.int k a) (.int k b) = some (.bool (!decide (a = b))) := by simp [BK.run, intC, intB, V.onInt, eqKind_self, eqB_dec]
theorem k_lss : (BK.int .lss).run P (.int k a) (.int k b) = some (.bool (decide (a < b))) := by
  simp [BK.run, intC, intB, V.onInt, eqKind_self, leB_dec]
  rw [Bool.eq_iff_iff]; simp
theorem k_leq : (BK.int .leq).run P (.int k a) (.int k b) = some (.bool (decide (a ≤ b))) := by simp [BK.run, intC, intB, V.onInt, eqKind_self, leB_dec]
theorem k_gtr : (BK.int .gtr).run P (.int k a) (.int k b) = some (.bool (decide (b < a))) := by
  simp [BK.run, intC, intB, V.onInt, eqKind_self, leB_dec]
  rw [Bool.eq_iff_iff]; simp
theorem k_geq : (BK.int .geq).run P (.int k a) (.int k b) = some (.bool (decide (b ≤ a))) := by simp [BK.run, intC, intB, V.onInt, eqKind_self, leB_dec]
theorem k_beql (x y : Bool) : (BK.eqb false).run P (.bool x) (.bool y) = some (.bool (x == y)) := by simp [BK.run, eqBin, eqShape, eqBoolC]
theorem k_bneq (x y : Bool) : (BK.eqb true).run P (.bool x) (.bool y) = some (.bool (!(x == y))) := by simp [BK.run, eqBin, eqShape, eqBoolC]
theorem u_not (x : Bool) : unV .not (.bool x) = some (.bool (!x)) := (rfl)
theorem u_neg : unV .neg (.int k a) = some (.int k (k.wrap (0 - a))) := (rfl)
theorem wrap_i64 {n : Int} (h1 : -9223372036854775808 ≤ n) (h2 : n ≤ 9223372036854775807) : IntKind.i64.wrap n = n := by
  exact Go.IntWalk.i64_in n ⟨h1, h2⟩
end
section
variable {P : Program} {r : RF} {h : Heap} {Q : Ex → RF → Heap → Prop}
theorem c_reg {ops : List GO} : wpC P (.reg ops) r h Q = wpOs P ops r h (Q .normal) := (rfl)
theorem c_seq {a b : RC} : wpC P (.seq a b) r h Q = wpC P a r h fun e r' h' => e.andThen (wpC P b r' h' Q) (Q e r' h') := (rfl)
theorem then_normal {A B : Prop} : Ex.andThen .normal A B = A := (rfl)
theorem then_ret {A B : Prop} : Ex.andThen .ret A B = B := (rfl)
theorem then_exit {A B : Prop} {i : Nat} : Ex.andThen (.exit i) A B = B := (rfl)
theorem leave_normal {id : Nat} : Ex.leave id .normal = .normal := (rfl)
theorem leave_ret {id : Nat} : Ex.leave id .ret = .ret := (rfl)
theorem leave_exit {id i : Nat} : Ex.leave id (.exit i) = if i = id then .normal else .exit i := (rfl)
end
end Go.Proofs.YtigflhomnoledaaGreatDoor.Am
namespace Go.Proofs.YtigflhomnoledaaGreatDoor.Am
variable [Lay]
open Go Go.RowKit
def withO {α : Type} (o : Option α) (k : α → Prop) : Prop :=
  match o with
  | some v => k v
  | none => False
@[congr] theorem with_congr {α : Type} {o o' : Option α} {k : α → Prop} (h : o = o') : withO o k = withO o' k := by rw [h]
def V.opt (c : Bool) (v : V) : V := bif c then v else .tuple []
theorem opt_true (v : V) : V.opt true v = v := (rfl)
theorem opt_false (v : V) : V.opt false v = .tuple [] := (rfl)
@[congr] theorem opt_congr {c c' : Bool} {v v' : V} (h : c = c') (hv : c' = true → v = v') : V.opt c v = V.opt c' v' := by
  subst h
  cases c with
  | true => rw [hv rfl]
  | false => rfl
def V.bif (t : Bool) (a b : V) : V := bif t then a else b
theorem vif_true (a b : V) : V.bif true a b = a := (rfl)
theorem vif_false (a b : V) : V.bif false a b = b := (rfl)
theorem bif_bool (t a b : Bool) : V.bif t (.bool a) (.bool b) = .bool (bif t then a else b) := by cases t <;> rfl
theorem bif_int (t : Bool) (k : IntKind) (a b : Int) : V.bif t (.int k a) (.int k b) = .int k (if t = true then a else b) := by cases t <;> rfl
theorem bif_or (t x : Bool) : (bif t then true else x) = (t || x) := by cases t <;> rfl
theorem bif_and (t x : Bool) : (bif t then x else false) = (t && x) := by cases t <;> rfl
@[congr] theorem bif_congr {t t' : Bool} {a a' b b' : V} (h : t = t') (ha : t' = true → a = a') (hb : t' = false → b = b') : V.bif t a b = V.bif t' a' b' := by
  subst h
  cases t with
  | true => rw [V.bif, V.bif, ha rfl]; rfl
  | false => rw [V.bif, V.bif, hb rfl]; rfl
def Imp (c : Bool) (A : Prop) : Prop := c = true → A
@[congr] theorem Imp_congr {c c' : Bool} {A A' : Prop} (h : c = c') (ha : c' = true → A = A') : Imp c A = Imp c' A' := by
  subst h
  exact propext ⟨fun q e => (ha e) ▸ q e, fun q e => (ha e) ▸ q e⟩
theorem Imp_T (c : Bool) : Imp c True = True := propext ⟨fun _ => trivial, fun _ _ => trivial⟩
theorem Imp_true (A : Prop) : Imp true A = A := propext ⟨fun q => q rfl, fun q _ => q⟩
theorem Imp_false (A : Prop) : Imp false A = True := propext ⟨fun _ => trivial, fun _ e => by cases e⟩
def took (v : V) (want : Bool) : Bool :=
  match v with
  | .bool b => b == want
  | _ => false
theorem took_bool (b w : Bool) : took (.bool b) w = (b == w) := (rfl)
theorem took_tuple (vs : List V) (w : Bool) : took (.tuple vs) w = false := (rfl)
theorem took_opt (c : Bool) (v : V) (w : Bool) : took (.opt c v) w = (c && took v w) := by cases c <;> rfl
def isGate (v : V) : Prop :=
  match v with
  | .bool _ => True
  | .tuple _ => True
  | _ => False
theorem isGate_bool (b : Bool) : isGate (.bool b) = True := (rfl)
theorem isGate_tuple (vs : List V) : isGate (.tuple vs) = True := (rfl)
theorem isGate_opt (c b : Bool) : isGate (.opt c (.bool b)) = True := by cases c <;> rfl
def G.isPure : G → Bool
  | .mv _ | .pick .. | .build .. | .ld1 _ | .ldn .. | .nilck _ | .bin .. | .un .. | .fn .. | .mth .. | .asrt .. | .ifc .. | .slstr .. | .sl .. | .fa .. | .fld1 .. | .fldn .. | .ia .. | .iaa .. | .ixs .. | .ix .. | .look .. | .ext .. | .mn _ | .mx _ => true
  | .cv (.int _) _ => true
  | .len .map _ => false
  | .len _ _ => true
  | _ => false
def V.onAgg {α : Type} (v : V) (d : α) (f : List V → α) : α :=
  match v with
  | .agg cs => f cs
  | _ => d
def V.onTup {α : Type} (v : V) (d : α) (f : List V → α) : α :=
  match v with
  | .tuple cs => f cs
  | _ => d
def pickB (c a b : V) : Option V :=
  match c with
  | .bool t => some (V.bif t a b)
  | _ => none
theorem pickB_bool (t : Bool) (a b : V) : pickB (.bool t) a b = some (V.bif t a b) := (rfl)
def sliceV (n : Nat) (x : V) (lo hi m3 : Option V) : Option V :=
  match x with
  | .nilslice => sliceNil lo hi m3
  | .slice b off ln cap => sliceKnown n b off ln cap lo hi m3
  | .gslice b off ln idx => sliceGrown n b off ln idx lo hi m3
  | .tslice b off off' idx => sliceTail b off off' idx lo hi m3
  | _ => none
noncomputable def G.pv (P : Program) (g : G) (r : RF) (h : Heap) : Option V :=
  match g with
  | .mv x => some (x.ev r)
  | .pick c a b => pickB (c.ev r) (a.ev r) (b.ev r)
  | .build z ps => (match fillR z (evPs r ps) with
    | some cs => some (.agg cs)
    | none => none)
  | .ld1 x => loadOne h (x.ev r)
  | .ldn n x => loadMany n h (x.ev r)
  | .nilck x => nilCheckV (x.ev r)
  | .bin k x y => k.run P (x.ev r) (y.ev r)
  | .un op x => unV op (x.ev r)
  | .cv (.int k) x => (x.ev r).onInt none fun _ n => some (.int k (k.wrap n))
  | .fn f caps => some (.func f (RX.evs r caps))
  | .mth f first => some (.meth f (RX.evs r first))
  | .asrt t z ok x => assertV t z ok (x.ev r)
  | .ifc t x => some (.iface t (x.ev r))
  | .slstr x lo hi m3 => sliceStr (x.ev r) (RX.opt r lo) (RX.opt r hi) (RX.opt r m3)
  | .sl n x lo hi m3 => sliceV n (x.ev r) (RX.opt r lo) (RX.opt r hi) (RX.opt r m3)
  | .fa off x => (x.ev r).onPtr none fun b o => some (.ptr b (o + off))
  | .fld1 off x => (x.ev r).onAgg none fun cs => cs[off]?
  | .fldn off n x => (x.ev r).onAgg none fun cs => some (.agg ((cs.drop off).take n))
  | .ia n x i => (indexSlice n).run (x.ev r) (i.ev r)
  | .iaa n s x i => (indexArr n s).run (x.ev r) (i.ev r)
  | .ixs x i => indexStr.run (x.ev r) (i.ev r)
  | .ix t x i => (indexC P t).run (x.ev r) (i.ev r)
  | .look k z ok x i => lookupU k.eq z ok h (x.ev r) (i.ev r)
  | .ext x i => (x.ev r).onTup none fun vs => vs[i]?
  | .len (.arr n) _ => some (.int .i64 n)
  | .len .str x => (lenOne .string).run (x.ev r)
  | .len .slice x => (lenOne (.slice 0)).run (x.ev r)
  | .mn args => pickV (fun b a => !Int.leB a b) (RX.evs r args)
  | .mx args => pickV (fun b a => !Int.leB b a) (RX.evs r args)
  | _ => none
section
variable {P : Program} {r : RF} {h : Heap}
theorem pure_run {g : G} (hp : g.isPure = true) (call : CallF) : g.run P call r h = OR.of h (g.pv P r h) := by
  cases g <;> simp only [G.isPure] at hp <;> try (cases hp; done)
  all_goals simp only [G.run, G.pv]
  case mv x => rfl
  case pick c a b =>
    generalize c.ev r = q
    cases q <;> rfl
  case build z ps =>
    generalize fillR z (evPs r ps) = q
    cases q <;> rfl
  case cv k x =>
    cases k <;> simp only at hp <;> try (cases hp; done)
    simp only [CK.run]
    generalize x.ev r = q
    cases q <;> rfl
  case fn f caps => rfl
  case mth f first => rfl
  case ifc t x => rfl
  case sl n x lo hi m3 =>
    unfold sliceV
    generalize x.ev r = q
    cases q <;> rfl
  case fld1 off x =>
    generalize x.ev r = q
    cases q <;> rfl
  case fldn off n x =>
    generalize x.ev r = q
    cases q <;> rfl
  case ext x i =>
    generalize x.ev r = q
    cases q <;> rfl
  case len k x =>
    cases k <;> simp only at hp <;> first | rfl | (cases hp; done)
theorem g_pure {g : G} (hp : g.isPure = true) {K : V → Heap → Prop} : g.wp P r h K = withO (g.pv P r h) fun v => K v h := by
  have e : g.wp P r h K = ∃ v h', g.run P nocall r h = .val v h' ∧ K v h' := by
    cases g <;> first | rfl | (simp [G.isPure] at hp; done)
  rw [e, pure_run hp]
  apply propext
  cases hv : g.pv P r h with
  | none => exact ⟨fun ⟨v, h', q, _⟩ => (by cases q), fun q => q.elim⟩
  | some v =>
    constructor
    · rintro ⟨v1, h1, q, k⟩
      simp only [OR.of, OR.val.injEq] at q
      obtain ⟨rfl, rfl⟩ := q
      exact k
    · intro k
      exact ⟨v, h, rfl, k⟩
theorem o_pure {d : Option Nat} {g : G} {rs : List Nat} {K : RF → V → Heap → Prop} (hp : g.isPure = true) : GO.wp P ⟨d, g, none, rs⟩ r h K = withO (g.pv P (r.trim rs) h) fun v => K (r.set d v) v h := by
  rw [o_plain, g_pure hp]
theorem o_gpure {d : Option Nat} {g : G} {j : Nat} {want : Bool} {rs : List Nat} {K : RF → V → Heap → Prop} (hp : g.isPure = true) : GO.wp P ⟨d, g, some (j, want), rs⟩ r h K =
    (isGate (r.trim rs j) ∧ Imp (took (r.trim rs j) want) ((g.pv P (r.trim rs) h).isSome = true) ∧
      K (r.set d (V.opt (took (r.trim rs j) want) ((g.pv P (r.trim rs) h).getD .bad))) (V.opt (took (r.trim rs j) want) ((g.pv P (r.trim rs) h).getD .bad)) h) := by
  rw [o_gate, g_pure hp]
  generalize r.trim rs j = q
  generalize g.pv P (r.trim rs) h = o
  apply propext
  cases q <;> simp only [gate, isGate, took, false_and, true_and]
  case bool b =>
    cases b <;> cases want <;> cases o <;> simp [withO, Imp, V.opt]
  case tuple vs => simp [Imp, V.opt]
@[congr] theorem wpOs_congr {os : List GO} {r r' : RF} {h h' : Heap} {K : RF → Heap → Prop} (e1 : r = r') (e2 : h = h') : wpOs P os r h K = wpOs P os r' h' K := by rw [e1, e2]
@[congr] theorem wpD_congr {os : List GO} {r r' : RF} {h h' : Heap} {K : List EntF → RF → Heap → Prop} (e1 : r = r') (e2 : h = h') : wpD P os r h K = wpD P os r' h' K := by rw [e1, e2]
@[congr] theorem GOwp_congr {o : GO} {r r' : RF} {h h' : Heap} {K : RF → V → Heap → Prop} (e1 : r = r') (e2 : h = h') : o.wp P r h K = o.wp P r' h' K := by rw [e1, e2]
@[congr] theorem Gwp_congr {g : G} {r r' : RF} {h h' : Heap} {K : V → Heap → Prop} (e1 : r = r') (e2 : h = h') : g.wp P r h K = g.wp P r' h' K := by rw [e1, e2]
@[congr] theorem wpC_congr {c : RC} {r r' : RF} {h h' : Heap} {Q : Ex → RF → Heap → Prop} (e1 : r = r') (e2 : h = h') : wpC P c r h Q = wpC P c r' h' Q := by rw [e1, e2]
@[congr] theorem Ctr_congr {f : FuncId} {a a' : List V} {h h' : Heap} {K : V → Heap → Prop} (e1 : a = a') (e2 : h = h') : Ctr P f a h K = Ctr P f a' h' K := by rw [e1, e2]
noncomputable def ld1B (k : Blk) (off : Nat) : Option V := k.see none fun n cs => bif Nat.blt off n then some (T.get .bad (pa off) cs) else none
noncomputable def ldnB (n : Nat) (k : Blk) (off : Nat) : Option V := k.see none fun m cs => bif Nat.ble (off + n) m then some (.agg (gets cs off n)) else none
theorem load1_ptr (b : Pa) (off : Nat) : loadOne h (.ptr b off) = ld1B (h.get b) off := (rfl)
theorem loadn_ptr (n : Nat) (b : Pa) (off : Nat) : loadMany n h (.ptr b off) = ldnB n (h.get b) off := (rfl)
theorem ld1_see {vs : List V} {off : Nat} : (bif Nat.blt off vs.length then some (T.get .bad (pa off) (puts .e 0 vs)) else none) = vs[off]? := by
  have := get_puts vs 0 off .e
  rw [Nat.zero_add] at this
  rw [this]
  by_cases ho : off < vs.length
  · rw [show Nat.blt off vs.length = true from by rw [Nat.blt_eq]; exact ho, if_pos ho]
    simp [List.getElem?_eq_getElem ho]
  · rw [show Nat.blt off vs.length = false from by rw [← Bool.not_eq_true, Nat.blt_eq]; exact ho]
    rw [List.getElem?_eq_none (by omega)]
    rfl
theorem ld1_ofL (vs : List V) (esz : Nat) (st : Bool) (off : Nat) : ld1B (.ofL vs esz st) off = vs[off]? := ld1_see
theorem ld1_ro (vs : List V) (off : Nat) : ld1B (.ro vs) off = vs[off]? := ld1_see
theorem ldn_see {vs : List V} {off n : Nat} : (bif Nat.ble (off + n) vs.length then some (V.agg (gets (puts .e 0 vs) off n)) else none) = if off + n ≤ vs.length then some (.agg ((vs.drop off).take n)) else none := by
  by_cases ho : off + n ≤ vs.length
  · rw [show Nat.ble (off + n) vs.length = true from by rw [Nat.ble_eq]; exact ho, if_pos ho, gets_eq vs n off ho]
    rfl
  · rw [show Nat.ble (off + n) vs.length = false from by rw [← Bool.not_eq_true, Nat.ble_eq]; exact ho, if_neg ho]
    rfl
theorem ldn_ofL (n : Nat) (vs : List V) (esz : Nat) (st : Bool) (off : Nat) : ldnB n (.ofL vs esz st) off = if off + n ≤ vs.length then some (.agg ((vs.drop off).take n)) else none := ldn_see
theorem ldn_ro (n : Nat) (vs : List V) (off : Nat) : ldnB n (.ro vs) off = if off + n ≤ vs.length then some (.agg ((vs.drop off).take n)) else none := ldn_see
theorem Rd.ld1 {b : Pa} {vs : List V} (H : Rd h b vs) (off : Nat) : ld1B (h.get b) off = vs[off]? := by
  rcases H with H | ⟨_, _, H⟩ <;> rw [H]
  · exact ld1_ro vs off
  · exact ld1_ofL vs _ _ off
theorem Rd.ldn {b : Pa} {vs : List V} (H : Rd h b vs) (n off : Nat) : ldnB n (h.get b) off = if off + n ≤ vs.length then some (.agg ((vs.drop off).take n)) else none := by
  rcases H with H | ⟨_, _, H⟩ <;> rw [H]
  · exact ldn_ro n vs off
  · exact ldn_ofL n vs _ _ off
def over : List V → List V → List V
  | vs, [] => vs
  | [], _ :: _ => []
  | _ :: vs, w :: ws => w :: over vs ws
def spl : List V → Nat → List V → List V
  | vs, 0, ws => over vs ws
  | [], _ + 1, _ => []
  | v :: vs, n + 1, ws => v :: spl vs n ws
theorem over_eq : ∀ (vs ws : List V), ws.length ≤ vs.length → over vs ws = ws ++ vs.drop ws.length
  | vs, [], _ => by cases vs <;> rfl
  | [], _ :: _, h => by simp at h
  | v :: vs, w :: ws, h => by
    simp only [over, List.cons_append, List.length_cons, List.drop_succ_cons]
    rw [over_eq vs ws (by simpa using h)]
theorem spl_eq : ∀ (vs : List V) (off : Nat) (ws : List V), off + ws.length ≤ vs.length → spl vs off ws = splice vs off ws
  | vs, 0, ws, h => by
    cases vs <;> simp only [spl, splice, List.take_zero, List.nil_append, Nat.zero_add] <;> exact over_eq _ ws (by omega)
  | [], n + 1, ws, h => by simp at h
  | v :: vs, n + 1, ws, h => by
    simp only [List.length_cons] at h
    simp only [spl, splice]
    rw [spl_eq vs n ws (by omega)]
    simp only [splice, List.take_succ_cons, List.cons_append]
    rw [show n + 1 + ws.length = n + ws.length + 1 from by omega, List.drop_succ_cons]
theorem spl_length (vs : List V) (off : Nat) (ws : List V) (h : off + ws.length ≤ vs.length) : (spl vs off ws).length = vs.length := by
  rw [spl_eq vs off ws h, splice_length vs off ws h]
noncomputable def layB (n : Nat) (h : Heap) (b : Pa) (off : Nat) (y : V) (k : Blk) : Option Heap :=
  bif Nat.beq y.cells.length n then k.on none fun m cs esz st =>
    bif Nat.ble (off + y.cells.length) m && ones y.cells then some (h.set b (.cells m (puts cs off y.cells) esz st)) else none else none
theorem store_ptr (n : Nat) (b : Pa) (off : Nat) (y : V) : storeV n h (.ptr b off) y = layB n h b off y (h.get b) := (rfl)
theorem lay_ofL {n : Nat} {b : Pa} {off : Nat} {y : V} {vs : List V} {esz : Nat} {st : Bool} (h1 : y.cells.length = n) (h2 : ones y.cells = true) (h3 : off + n ≤ vs.length) :
    layB n h b off y (.ofL vs esz st) = some (h.set b (.ofL (spl vs off y.cells) esz st)) := by
  unfold layB
  rw [show Nat.beq y.cells.length n = true from by rw [Nat.beq_eq]; exact h1]
  simp only [cond_true, Blk.ofL, Blk.on]
  rw [show Nat.ble (off + y.cells.length) vs.length = true from by rw [Nat.ble_eq, h1]; exact h3, h2]
  simp only [Bool.and_true, cond_true, Option.some.injEq]
  rw [spl_length vs off _ (by rw [h1]; exact h3), spl_eq vs off _ (by rw [h1]; exact h3), puts_splice _ vs off (by rw [h1]; exact h3)]
theorem get_new_self (k : Blk) : (h.new k).get (pa h.next) = k := by rw [Heap.get_new, if_pos rfl]
theorem get_new (b : Pa) (k : Blk) : (h.new k).get b = if pa h.next = b then k else h.get b := Heap.get_new h b k
theorem get_set (b b' : Pa) (k : Blk) : (h.set b k).get b' = if b = b' then k else h.get b' := Heap.get_set h b b' k
def Old (h : Heap) (b : Pa) : Prop := unPa b < h.next
theorem old_ne {b : Pa} {i : Nat} (hb : Old h b) (hi : h.next ≤ i) : (pa i = b) = False := by
  apply propext
  constructor
  · intro e
    unfold Old at hb
    rw [← e, unPa_pa] at hb
    omega
  · exact False.elim
theorem old_self {k : Blk} : Old (h.new k) (pa h.next) := by unfold Old; rw [unPa_pa]; exact Nat.lt_succ_self _
def faV (off : Nat) (x : V) : Option V := x.onPtr none fun b o => some (.ptr b (o + off))
theorem fa_ptr (off : Nat) (b : Pa) (o : Nat) : faV off (.ptr b o) = some (.ptr b (o + off)) := (rfl)
theorem on_tup {α : Type} (vs : List V) (d : α) (f : List V → α) : V.onTup (.tuple vs) d f = f vs := (rfl)
theorem on_agg {α : Type} (vs : List V) (d : α) (f : List V → α) : V.onAgg (.agg vs) d f = f vs := (rfl)
def lenSl (x : V) : Option V := (lenOne (.slice 0)).run x
theorem lens_sl (b : Pa) (off n c : Nat) : lenSl (.slice b off n c) = some (.int .i64 n) := (rfl)
theorem lens_g (b : Pa) (off n c : Nat) : lenSl (.gslice b off n c) = some (.int .i64 n) := (rfl)
theorem lens_t (b : Pa) (off n c : Nat) : lenSl (.tslice b off n c) = some (.int .i64 0) := (rfl)
theorem lens_nil : lenSl .nilslice = some (.int .i64 0) := (rfl)
def lenSt (x : V) : Option V := (lenOne .string).run x
theorem lenst_str (s : List UInt8) : lenSt (.str s) = some (.int .i64 s.length) := (rfl)
def iaV (n : Nat) (x i : V) : Option V := (indexSlice n).run x i
theorem ia_sl (n : Nat) (b : Pa) (off len cap : Nat) (k : IntKind) (i : Int) : iaV n (.slice b off len cap) (.int k i) = if 0 ≤ i ∧ i < len then some (.ptr b (off + i.toNat * n)) else none := by
  simp only [iaV, indexSlice, V.onInt, inRange, leB_dec]
  by_cases h1 : 0 ≤ i <;> by_cases h2 : (len : Int) ≤ i <;> simp [h1, h2] <;> omega
theorem ia_g (n : Nat) (b : Pa) (off len cap : Nat) (k : IntKind) (i : Int) : iaV n (.gslice b off len cap) (.int k i) = if 0 ≤ i ∧ i < len then some (.ptr b (off + i.toNat * n)) else none := by
  simp only [iaV, indexSlice, V.onInt, inRange, leB_dec]
  by_cases h1 : 0 ≤ i <;> by_cases h2 : (len : Int) ≤ i <;> simp [h1, h2] <;> omega
def cvI (k : IntKind) (x : V) : Option V := x.onInt none fun _ n => some (.int k (k.wrap n))
theorem cvi_int (k k' : IntKind) (n : Int) : cvI k (.int k' n) = some (.int k (k.wrap n)) := (rfl)
end
end Go.Proofs.YtigflhomnoledaaGreatDoor.Am
namespace Go.Proofs.YtigflhomnoledaaGreatDoor.Am
variable [Lay]
open Go Go.RowKit
structure DS where
  all : List GO
  asks : List (Nat × List Nat)
  es : List EntF
def pushD (D : Option DS) (r : RF) (h : Heap) (v : V) : Option DS :=
  match D with
  | none => none
  | some d => some ⟨d.all, d.asks, d.es ++ [⟨r, h, v⟩]⟩
inductive KS where
  | os (D : Option DS) (os : List GO)
  | c (b : RC)
  | blk (id : Nat)
section
variable (P : Program)
noncomputable def asksD (D : Option DS) (es : List EntF) (hf : Heap) : Prop :=
  match D with
  | none => True
  | some d => asksP P d.all (d.es ++ es) hf d.asks
noncomputable def wpK : List KS → Ex → RF → Heap → (Ex → RF → Heap → Prop) → Prop
  | [], e, r, h, Q => Q e r h
  | .os D os :: ks, e, r, h, Q => match e with
    | .normal => wpD P os r h fun es r' h' => asksD P D es h' ∧ wpK ks .normal r' h' Q
    | e => wpK ks e r h Q
  | .c b :: ks, e, r, h, Q => match e with
    | .normal => wpC P b r h fun e r' h' => wpK ks e r' h' Q
    | e => wpK ks e r h Q
  | .blk id :: ks, e, r, h, Q => wpK ks (e.leave id) r h Q
noncomputable def stepV (o : Option V) (d : Option Nat) (D : Option DS) (os : List GO) (ks : List KS) (r : RF) (h : Heap) (Q : Ex → RF → Heap → Prop) : Prop :=
  withO o fun v => wpK P (.os (pushD D r h v) os :: ks) .normal (r.set d v) h Q
noncomputable def stepO (o : OR) (d : Option Nat) (D : Option DS) (os : List GO) (ks : List KS) (r : RF) (h0 : Heap) (Q : Ex → RF → Heap → Prop) : Prop :=
  match o with
  | .val v h => wpK P (.os (pushD D r h0 v) os :: ks) .normal (r.set d v) h Q
  | _ => False
noncomputable def gateK (v : V) (want : Bool) (d : Option Nat) (g : G) (rs : List Nat) (D : Option DS) (os : List GO) (ks : List KS) (r : RF) (h : Heap) (Q : Ex → RF → Heap → Prop) : Prop :=
  gate v want (wpK P (.os D (⟨d, g, none, rs⟩ :: os) :: ks) .normal r h Q) (wpK P (.os (pushD D r h (.tuple [])) os :: ks) .normal (r.set d (.tuple [])) h Q)
noncomputable def condK (v : V) (a b : RC) (ks : List KS) (r : RF) (h : Heap) (Q : Ex → RF → Heap → Prop) : Prop :=
  match v with
  | .bool t => (t = true → wpK P (.c a :: ks) .normal r h Q) ∧ (t = false → wpK P (.c b :: ks) .normal r h Q)
  | _ => False
noncomputable def callK (f : FuncId) (args : List V) (d : Option Nat) (D : Option DS) (os : List GO) (ks : List KS) (r : RF) (h : Heap) (Q : Ex → RF → Heap → Prop) : Prop :=
  Ctr P f args h fun v h' => wpK P (.os (pushD D r h v) os :: ks) .normal (r.set d v) h' Q
noncomputable def yldK (xs : List V) (d : Option Nat) (D : Option DS) (os : List GO) (ks : List KS) (r : RF) (h : Heap) (Q : Ex → RF → Heap → Prop) : Prop :=
  YldC P xs h fun v h' => wpK P (.os (pushD D r h v) os :: ks) .normal (r.set d v) h' Q
noncomputable def callXK (g : FuncId) (xs : List V) (d : Option Nat) (D : Option DS) (os : List GO) (ks : List KS) (r : RF) (h : Heap) (Q : Ex → RF → Heap → Prop) : Prop :=
  if g = 4294967296 then yldK P xs d D os ks r h Q else callK P g xs d D os ks r h Q
noncomputable def callvK (f : V) (args : List V) (d : Option Nat) (D : Option DS) (os : List GO) (ks : List KS) (r : RF) (h : Heap) (Q : Ex → RF → Heap → Prop) : Prop :=
  ∃ g xs, f.target args = some (g, xs) ∧ callXK P g xs d D os ks r h Q
noncomputable def loopK (b : RC) (ks : List KS) (r : RF) (h : Heap) (Q : Ex → RF → Heap → Prop) : Prop := wpC P (.loop b) r h fun e r' h' => wpK P ks e r' h' Q
end
section
variable {P : Program} {r : RF} {h : Heap} {Q : Ex → RF → Heap → Prop} {ks : List KS} {os : List GO} {D : Option DS}
theorem pushD_none (r : RF) (h : Heap) (v : V) : pushD none r h v = none := (rfl)
theorem pushD_some (all : List GO) (asks : List (Nat × List Nat)) (es : List EntF) (r : RF) (h : Heap) (v : V) : pushD (some ⟨all, asks, es⟩) r h v = some ⟨all, asks, es ++ [⟨r, h, v⟩]⟩ := (rfl)
theorem wpK_of {c : RC} (H : wpK P [.c c] .normal r h Q) : wpC P c r h Q := H
theorem k_nil {e : Ex} : wpK P [] e r h Q = Q e r h := (rfl)
theorem k_blk {e : Ex} {id : Nat} : wpK P (.blk id :: ks) e r h Q = wpK P ks (e.leave id) r h Q := (rfl)
theorem k_seq {a b : RC} : wpK P (.c (.seq a b) :: ks) .normal r h Q = wpK P (.c a :: .c b :: ks) .normal r h Q := by
  simp only [wpK]
  rw [c_seq]
  congr 1
  funext e r' h'
  cases e <;> rfl
theorem k_block {id : Nat} {b : RC} : wpK P (.c (.block id b) :: ks) .normal r h Q = wpK P (.c b :: .blk id :: ks) .normal r h Q := (rfl)
theorem wpD_os : ∀ (os : List GO) (r : RF) (h : Heap) (K : RF → Heap → Prop), wpD P os r h (fun _ r h => K r h) = wpOs P os r h K
  | [], _, _, _ => rfl
  | o :: os, r, h, K => by
    simp only [wpD, wpOs]
    congr 1
    funext r' v h'
    exact wpD_os os r' h' K
theorem k_reg {ops : List GO} : wpK P (.c (.reg ops) :: ks) .normal r h Q = wpK P (.os none ops :: ks) .normal r h Q := by
  simp only [wpK, asksD, true_and]
  rw [wpD_os, c_reg]
theorem k_skip : wpK P (.c .skip :: ks) .normal r h Q = wpK P ks .normal r h Q := (rfl)
theorem k_ret : wpK P (.c .ret :: ks) .normal r h Q = wpK P ks .ret r h Q := (rfl)
theorem k_exit {i : Nat} : wpK P (.c (.exit i) :: ks) .normal r h Q = wpK P ks (.exit i) r h Q := (rfl)
theorem k_cret {b : RC} : wpK P (.c b :: ks) .ret r h Q = wpK P ks .ret r h Q := (rfl)
theorem k_cexit {b : RC} {i : Nat} : wpK P (.c b :: ks) (.exit i) r h Q = wpK P ks (.exit i) r h Q := (rfl)
theorem k_cond {c : RX} {a b : RC} : wpK P (.c (.cond c a b) :: ks) .normal r h Q = condK P (c.ev r) a b ks r h Q := by
  simp only [wpK, wpC]
  cases c.ev r <;> rfl
theorem k_loop {b : RC} : wpK P (.c (.loop b) :: ks) .normal r h Q = loopK P b ks r h Q := (rfl)
theorem k_draw {ops : List GO} {asks : List (Nat × List Nat)} : wpK P (.c (.draw ops asks) :: ks) .normal r h Q = wpK P (.os (some ⟨ops, asks, []⟩) ops :: ks) .normal r h Q := (rfl)
theorem k_osnil : wpK P (.os none [] :: ks) .normal r h Q = wpK P ks .normal r h Q := by
  simp only [wpK, wpD, asksD, true_and]
theorem k_dnil {all : List GO} {asks : List (Nat × List Nat)} {es : List EntF} : wpK P (.os (some ⟨all, asks, es⟩) [] :: ks) .normal r h Q = (asksP P all es h asks ∧ wpK P ks .normal r h Q) := by
  simp only [wpK, wpD, asksD, List.append_nil]
theorem asksD_push (D : Option DS) (r : RF) (h : Heap) (v : V) (es : List EntF) (hf : Heap) : asksD P (pushD D r h v) es hf = asksD P D (⟨r, h, v⟩ :: es) hf := by
  cases D with
  | none => rfl
  | some d => simp only [pushD, asksD, List.append_assoc, List.cons_append, List.nil_append]
theorem k_pure {d : Option Nat} {g : G} {rs : List Nat} (hp : g.isPure = true) : wpK P (.os D (⟨d, g, none, rs⟩ :: os) :: ks) .normal r h Q = stepV P (g.pv P (r.trim rs) h) d D os ks r h Q := by
  simp only [wpK, wpD, stepV]
  rw [o_pure hp]
  simp only [asksD_push]
theorem k_gpure {d : Option Nat} {g : G} {j : Nat} {want : Bool} {rs : List Nat} (hp : g.isPure = true) : wpK P (.os D (⟨d, g, some (j, want), rs⟩ :: os) :: ks) .normal r h Q =
    (isGate (r.trim rs j) ∧ Imp (took (r.trim rs j) want) ((g.pv P (r.trim rs) h).isSome = true) ∧
      stepV P (some (V.opt (took (r.trim rs j) want) ((g.pv P (r.trim rs) h).getD .bad))) d D os ks r h Q) := by
  simp only [wpK, wpD, stepV, withO]
  rw [o_gpure hp]
  simp only [asksD_push]
def G.isCall : G → Bool
  | .call .. | .callv .. => true
  | _ => false
theorem k_run {d : Option Nat} {g : G} {rs : List Nat} (hp : g.isPure = false) (hc : g.isCall = false) : wpK P (.os D (⟨d, g, none, rs⟩ :: os) :: ks) .normal r h Q = stepO P (g.run P nocall (r.trim rs) h) d D os ks r h Q := by
  simp only [wpK, wpD]
  rw [o_plain]
  have e : ∀ K : V → Heap → Prop, g.wp P (r.trim rs) h K = ∃ v h', g.run P nocall (r.trim rs) h = .val v h' ∧ K v h' := by
    intro K
    cases g <;> first | rfl | (simp [G.isCall] at hc; done)
  rw [e]
  unfold stepO
  simp only [wpK, asksD_push]
  cases g.run P nocall (r.trim rs) h with
  | fail => exact propext ⟨fun ⟨v, h', q, _⟩ => (by cases q), fun q => q.elim⟩
  | pan v1 h1 => exact propext ⟨fun ⟨v, h', q, _⟩ => (by cases q), fun q => q.elim⟩
  | val v1 h1 =>
    apply propext
    constructor
    · rintro ⟨v, h', q, k⟩
      simp only [OR.val.injEq] at q
      obtain ⟨rfl, rfl⟩ := q
      exact k
    · intro k
      exact ⟨_, _, rfl, k⟩
theorem k_gate {d : Option Nat} {g : G} {j : Nat} {want : Bool} {rs : List Nat} (hp : g.isPure = false) : wpK P (.os D (⟨d, g, some (j, want), rs⟩ :: os) :: ks) .normal r h Q = gateK P (r.trim rs j) want d g rs D os ks r h Q := by
  simp only [gateK, wpK, wpD, asksD_push]
  rw [o_gate]
  rfl
theorem k_call {d : Option Nat} {f : FuncId} {args : List RX} {rs : List Nat} : wpK P (.os D (⟨d, .call f args, none, rs⟩ :: os) :: ks) .normal r h Q = callK P f (RX.evs (r.trim rs) args) d D os ks r h Q := by
  simp only [callK, wpK, wpD, asksD_push]
  rfl
theorem k_callv {d : Option Nat} {f : RX} {args : List RX} {rs : List Nat} : wpK P (.os D (⟨d, .callv f args, none, rs⟩ :: os) :: ks) .normal r h Q = callvK P (f.ev (r.trim rs)) (RX.evs (r.trim rs) args) d D os ks r h Q := by
  simp only [callvK, callXK, yldK, callK, wpK, wpD, asksD_push]
  rfl
theorem callv_of {f : V} {g : FuncId} {xs args : List V} {d : Option Nat} (hf : f.target args = some (g, xs)) : callvK P f args d D os ks r h Q = callXK P g xs d D os ks r h Q := by
  apply propext
  constructor
  · rintro ⟨g', xs', q, k⟩
    rw [hf] at q
    simp only [Option.some.injEq, Prod.mk.injEq] at q
    obtain ⟨rfl, rfl⟩ := q
    exact k
  · intro k
    exact ⟨_, _, hf, k⟩
theorem callv_func {g : FuncId} {cs args : List V} {d : Option Nat} : callvK P (.func g cs) args d D os ks r h Q = if g = 4294967296 then yldK P (args ++ cs) d D os ks r h Q else callK P g (args ++ cs) d D os ks r h Q := callv_of rfl
@[congr] theorem stepV_congr {o o' : Option V} {d : Option Nat} (e : o = o') : stepV P o d D os ks r h Q = stepV P o' d D os ks r h Q := by rw [e]
@[congr] theorem stepO_congr {o o' : OR} {d : Option Nat} (e : o = o') : stepO P o d D os ks r h Q = stepO P o' d D os ks r h Q := by rw [e]
@[congr] theorem condK_congr {v v' : V} {a b : RC} (e : v = v') : condK P v a b ks r h Q = condK P v' a b ks r h Q := by rw [e]
@[congr] theorem gateK_congr {v v' : V} {want : Bool} {d : Option Nat} {g : G} {rs : List Nat} (e : v = v') : gateK P v want d g rs D os ks r h Q = gateK P v' want d g rs D os ks r h Q := by rw [e]
@[congr] theorem callvK_congr {f f' : V} {args args' : List V} {d : Option Nat} (e1 : f = f') (e2 : args = args') : callvK P f args d D os ks r h Q = callvK P f' args' d D os ks r h Q := by rw [e1, e2]
@[congr] theorem callK_congr {f : FuncId} {args args' : List V} {d : Option Nat} (e2 : args = args') : callK P f args d D os ks r h Q = callK P f args' d D os ks r h Q := by rw [e2]
@[congr] theorem wpK_congr {e e' : Ex} {r' : RF} {h' : Heap} (e0 : e = e') (e1 : r = r') (e2 : h = h') : wpK P ks e r h Q = wpK P ks e' r' h' Q := by rw [e0, e1, e2]
@[congr] theorem loopK_congr {b : RC} {r' : RF} {h' : Heap} (e1 : r = r') (e2 : h = h') : loopK P b ks r h Q = loopK P b ks r' h' Q := by rw [e1, e2]
theorem sv_some {v : V} {d : Option Nat} : stepV P (some v) d D os ks r h Q = wpK P (.os (pushD D r h v) os :: ks) .normal (r.set d v) h Q := (rfl)
theorem so_val {v : V} {h' : Heap} {d : Option Nat} : stepO P (.val v h') d D os ks r h Q = wpK P (.os (pushD D r h v) os :: ks) .normal (r.set d v) h' Q := (rfl)
theorem condK_bool {t : Bool} {a b : RC} : condK P (.bool t) a b ks r h Q = ((t = true → wpK P (.c a :: ks) .normal r h Q) ∧ (t = false → wpK P (.c b :: ks) .normal r h Q)) := (rfl)
theorem gateK_t {b : Bool} {d : Option Nat} {g : G} {rs : List Nat} : gateK P (.bool b) true d g rs D os ks r h Q = ((b = true → wpK P (.os D (⟨d, g, none, rs⟩ :: os) :: ks) .normal r h Q) ∧ (b = false → wpK P (.os (pushD D r h (.tuple [])) os :: ks) .normal (r.set d (.tuple [])) h Q)) := (rfl)
theorem gateK_f {b : Bool} {d : Option Nat} {g : G} {rs : List Nat} : gateK P (.bool b) false d g rs D os ks r h Q = ((b = false → wpK P (.os D (⟨d, g, none, rs⟩ :: os) :: ks) .normal r h Q) ∧ (b = true → wpK P (.os (pushD D r h (.tuple [])) os :: ks) .normal (r.set d (.tuple [])) h Q)) := (rfl)
theorem gateK_tuple {vs : List V} {want : Bool} {d : Option Nat} {g : G} {rs : List Nat} : gateK P (.tuple vs) want d g rs D os ks r h Q = wpK P (.os (pushD D r h (.tuple [])) os :: ks) .normal (r.set d (.tuple [])) h Q := (rfl)
def orH (v : V) (o : Option Heap) : OR := orHeap v o
theorem orH_some (v : V) (h' : Heap) : orH v (some h') = .val v h' := (rfl)
def boxO (b : Bool) (o : OR) : OR := bif b then o else .fail
theorem boxO_true (o : OR) : boxO true o = o := (rfl)
noncomputable def bslO (n : Nat) (h : Heap) (o : Option (List V)) : OR :=
  match o with
  | some cs => orH (.slice (pa h.next) 0 n n) (newCells h cs)
  | none => .fail
theorem bslO_some (n : Nat) (cs : List V) : bslO n h (some cs) = orH (.slice (pa h.next) 0 n n) (newCells h cs) := (rfl)
theorem run_bsl {n size : Nat} {z : List V} {ps : List (Nat × Nat × RX)} : (G.bsl n size z ps).run P nocall r h = bslO n h (fillR (repeatV z n) (evPs r ps)) := by
  simp only [G.run]
  cases fillR (repeatV z n) (evPs r ps) with
  | none => rfl
  | some cs =>
    simp only [bslO, orH, orHeap]
    cases newCells h cs <;> rfl
theorem fill_nil (cells : List V) : fillR cells [] = some cells := (rfl)
theorem fill_cons {cells : List V} {off size : Nat} {v : V} {rest : List (Nat × Nat × V)} (h1 : v.good = true) (h2 : v.cells.length = size) (h3 : off + size ≤ cells.length) :
    fillR cells ((off, size, v) :: rest) = fillR (spl cells off v.cells) rest := by
  simp only [fillR]
  rw [h1, show Nat.beq v.cells.length size = true from by rw [Nat.beq_eq]; exact h2, show Nat.ble (off + v.cells.length) cells.length = true from by rw [Nat.ble_eq, h2]; exact h3]
  simp only [Bool.and_true, cond_true]
  congr 1
  have fa : ∀ (ws cs : List V) (o : Nat), o + ws.length ≤ cs.length → fillAt cs o ws = splice cs o ws := by
    intro ws
    induction ws with
    | nil => intro cs o _; simp [fillAt, splice]
    | cons w ws ih =>
      intro cs o ho
      simp only [List.length_cons] at ho
      simp only [fillAt]
      rw [ih (cs.set o w) (o + 1) (by simp; omega), set_splice cs o w ws (by omega)]
  rw [fa _ _ _ (by rw [h2]; exact h3), spl_eq _ _ _ (by rw [h2]; exact h3)]
def buildO (o : Option (List V)) : Option V :=
  match o with
  | some cs => some (.agg cs)
  | none => none
theorem buildO_some (cs : List V) : buildO (some cs) = some (.agg cs) := (rfl)
theorem evPs_nil : evPs r [] = [] := (rfl)
theorem evPs_cons {o s : Nat} {x : RX} {ps : List (Nat × Nat × RX)} : evPs r ((o, s, x) :: ps) = (o, s, x.ev r) :: evPs r ps := (rfl)
noncomputable def askK (P : Program) (o : GO) (e : EntF) (H : Heap) : Prop := o.wp P e.r H fun _ v' _ => v' = e.v
theorem asks_nil {ops : List GO} {es : List EntF} {hf : Heap} : asksP P ops es hf [] = True := (rfl)
theorem asks_cons {ops : List GO} {es : List EntF} {hf : Heap} {p : Nat} {ss : List Nat} {rest : List (Nat × List Nat)} : asksP P ops es hf ((p, ss) :: rest) = (askP P ops[p]? es[p]? es hf ss ∧ asksP P ops es hf rest) := (rfl)
theorem ask_nil {o : Option GO} {e : Option EntF} {es : List EntF} {hf : Heap} : askP P o e es hf [] = True := (rfl)
theorem ask_cons {o : GO} {e : EntF} {es : List EntF} {hf : Heap} {s : Nat} {ss : List Nat} : askP P (some o) (some e) es hf (s :: ss) = (askK P o e (heapF es hf s) ∧ askP P (some o) (some e) es hf ss) := (rfl)
def heapO (o : Option EntF) (hf : Heap) : Heap :=
  match o with
  | some e => e.h
  | none => hf
theorem heapF_o (es : List EntF) (hf : Heap) (s : Nat) : heapF es hf s = heapO es[s]? hf := (rfl)
theorem heapO_some (e : EntF) (hf : Heap) : heapO (some e) hf = e.h := (rfl)
theorem heapO_none (hf : Heap) : heapO none hf = hf := (rfl)
theorem ask_pure {d : Option Nat} {g : G} {rs : List Nat} {e : EntF} {H : Heap} (hp : g.isPure = true) : askK P ⟨d, g, none, rs⟩ e H = (g.pv P (e.r.trim rs) H = some e.v) := by
  unfold askK
  rw [o_pure hp]
  apply propext
  cases g.pv P (e.r.trim rs) H with
  | none => exact ⟨fun q => q.elim, fun q => (by cases q)⟩
  | some v => exact ⟨fun q => by rw [show v = e.v from q], fun q => by cases q; rfl⟩
theorem ask_gpure {d : Option Nat} {g : G} {j : Nat} {want : Bool} {rs : List Nat} {e : EntF} {H : Heap} (hp : g.isPure = true) : askK P ⟨d, g, some (j, want), rs⟩ e H =
    (isGate (e.r.trim rs j) ∧ Imp (took (e.r.trim rs j) want) ((g.pv P (e.r.trim rs) H).isSome = true) ∧ V.opt (took (e.r.trim rs j) want) ((g.pv P (e.r.trim rs) H).getD .bad) = e.v) := by
  unfold askK
  rw [o_gpure hp]
theorem ask_ld1 {d : Option Nat} {x : RX} {rs : List Nat} {e : EntF} {H : Heap} : askK P ⟨d, .ld1 x, none, rs⟩ e H = (loadOne H (x.ev (e.r.trim rs)) = some e.v) := ask_pure rfl
theorem ask_ldn {d : Option Nat} {n : Nat} {x : RX} {rs : List Nat} {e : EntF} {H : Heap} : askK P ⟨d, .ldn n x, none, rs⟩ e H = (loadMany n H (x.ev (e.r.trim rs)) = some e.v) := ask_pure rfl
theorem askg_ld1 {d : Option Nat} {x : RX} {j : Nat} {want : Bool} {rs : List Nat} {e : EntF} {H : Heap} : askK P ⟨d, .ld1 x, some (j, want), rs⟩ e H =
    (isGate (e.r.trim rs j) ∧ Imp (took (e.r.trim rs j) want) ((loadOne H (x.ev (e.r.trim rs))).isSome = true) ∧ V.opt (took (e.r.trim rs j) want) ((loadOne H (x.ev (e.r.trim rs))).getD .bad) = e.v) := ask_gpure rfl
theorem askg_ldn {d : Option Nat} {n : Nat} {x : RX} {j : Nat} {want : Bool} {rs : List Nat} {e : EntF} {H : Heap} : askK P ⟨d, .ldn n x, some (j, want), rs⟩ e H =
    (isGate (e.r.trim rs j) ∧ Imp (took (e.r.trim rs j) want) ((loadMany n H (x.ev (e.r.trim rs))).isSome = true) ∧ V.opt (took (e.r.trim rs j) want) ((loadMany n H (x.ev (e.r.trim rs))).getD .bad) = e.v) := ask_gpure rfl
end
end Go.Proofs.YtigflhomnoledaaGreatDoor.Am
namespace Go.Proofs.YtigflhomnoledaaGreatDoor.Am
variable [Lay]
open Go Go.RowKit
noncomputable def rngO (x : V) (h : Heap) : OR :=
  match x with
  | .str s => .val (.ptr (pa h.next) 0) (h.new (.iter s 0))
  | _ => .fail
theorem rngO_str (s : List UInt8) (h : Heap) : rngO (.str s) h = .val (.ptr (pa h.next) 0) (h.new (.iter s 0)) := (rfl)
section
variable {P : Program} {r : RF} {h : Heap} {Q : Ex → RF → Heap → Prop} {ks : List KS} {os : List GO} {D : Option DS} {d : Option Nat} {rs : List Nat}
theorem k_mv {x : RX} : wpK P (.os D (⟨d, (.mv x), none, rs⟩ :: os) :: ks) .normal r h Q = stepV P (some (x.ev (r.trim rs))) d D os ks r h Q := k_pure rfl
theorem kg_mv {x : RX} {j : Nat} {want : Bool} : wpK P (.os D (⟨d, (.mv x), some (j, want), rs⟩ :: os) :: ks) .normal r h Q = (isGate (r.trim rs j) ∧ Imp (took (r.trim rs j) want) ((some (x.ev (r.trim rs))).isSome = true) ∧ stepV P (some (V.opt (took (r.trim rs j) want) ((some (x.ev (r.trim rs))).getD .bad))) d D os ks r h Q) := k_gpure rfl
theorem k_pick {c a b : RX} : wpK P (.os D (⟨d, (.pick c a b), none, rs⟩ :: os) :: ks) .normal r h Q = stepV P (pickB (c.ev (r.trim rs)) (a.ev (r.trim rs)) (b.ev (r.trim rs))) d D os ks r h Q := k_pure rfl
theorem kg_pick {c a b : RX} {j : Nat} {want : Bool} : wpK P (.os D (⟨d, (.pick c a b), some (j, want), rs⟩ :: os) :: ks) .normal r h Q = (isGate (r.trim rs j) ∧ Imp (took (r.trim rs j) want) ((pickB (c.ev (r.trim rs)) (a.ev (r.trim rs)) (b.ev (r.trim rs))).isSome = true) ∧ stepV P (some (V.opt (took (r.trim rs j) want) ((pickB (c.ev (r.trim rs)) (a.ev (r.trim rs)) (b.ev (r.trim rs))).getD .bad))) d D os ks r h Q) := k_gpure rfl
theorem k_build {z : List V} {ps : List (Nat × Nat × RX)} : wpK P (.os D (⟨d, (.build z ps), none, rs⟩ :: os) :: ks) .normal r h Q = stepV P (buildO (fillR z (evPs (r.trim rs) ps))) d D os ks r h Q := k_pure rfl
theorem kg_build {z : List V} {ps : List (Nat × Nat × RX)} {j : Nat} {want : Bool} : wpK P (.os D (⟨d, (.build z ps), some (j, want), rs⟩ :: os) :: ks) .normal r h Q = (isGate (r.trim rs j) ∧ Imp (took (r.trim rs j) want) ((buildO (fillR z (evPs (r.trim rs) ps))).isSome = true) ∧ stepV P (some (V.opt (took (r.trim rs j) want) ((buildO (fillR z (evPs (r.trim rs) ps))).getD .bad))) d D os ks r h Q) := k_gpure rfl
theorem k_ld1 {x : RX} : wpK P (.os D (⟨d, (.ld1 x), none, rs⟩ :: os) :: ks) .normal r h Q = stepV P (loadOne h (x.ev (r.trim rs))) d D os ks r h Q := k_pure rfl
theorem kg_ld1 {x : RX} {j : Nat} {want : Bool} : wpK P (.os D (⟨d, (.ld1 x), some (j, want), rs⟩ :: os) :: ks) .normal r h Q = (isGate (r.trim rs j) ∧ Imp (took (r.trim rs j) want) ((loadOne h (x.ev (r.trim rs))).isSome = true) ∧ stepV P (some (V.opt (took (r.trim rs j) want) ((loadOne h (x.ev (r.trim rs))).getD .bad))) d D os ks r h Q) := k_gpure rfl
theorem k_ldn {n : Nat} {x : RX} : wpK P (.os D (⟨d, (.ldn n x), none, rs⟩ :: os) :: ks) .normal r h Q = stepV P (loadMany n h (x.ev (r.trim rs))) d D os ks r h Q := k_pure rfl
theorem kg_ldn {n : Nat} {x : RX} {j : Nat} {want : Bool} : wpK P (.os D (⟨d, (.ldn n x), some (j, want), rs⟩ :: os) :: ks) .normal r h Q = (isGate (r.trim rs j) ∧ Imp (took (r.trim rs j) want) ((loadMany n h (x.ev (r.trim rs))).isSome = true) ∧ stepV P (some (V.opt (took (r.trim rs j) want) ((loadMany n h (x.ev (r.trim rs))).getD .bad))) d D os ks r h Q) := k_gpure rfl
theorem k_nilck {x : RX} : wpK P (.os D (⟨d, (.nilck x), none, rs⟩ :: os) :: ks) .normal r h Q = stepV P (nilCheckV (x.ev (r.trim rs))) d D os ks r h Q := k_pure rfl
theorem kg_nilck {x : RX} {j : Nat} {want : Bool} : wpK P (.os D (⟨d, (.nilck x), some (j, want), rs⟩ :: os) :: ks) .normal r h Q = (isGate (r.trim rs j) ∧ Imp (took (r.trim rs j) want) ((nilCheckV (x.ev (r.trim rs))).isSome = true) ∧ stepV P (some (V.opt (took (r.trim rs j) want) ((nilCheckV (x.ev (r.trim rs))).getD .bad))) d D os ks r h Q) := k_gpure rfl
theorem k_bin {k : BK} {x y : RX} : wpK P (.os D (⟨d, (.bin k x y), none, rs⟩ :: os) :: ks) .normal r h Q = stepV P (k.run P (x.ev (r.trim rs)) (y.ev (r.trim rs))) d D os ks r h Q := k_pure rfl
theorem kg_bin {k : BK} {x y : RX} {j : Nat} {want : Bool} : wpK P (.os D (⟨d, (.bin k x y), some (j, want), rs⟩ :: os) :: ks) .normal r h Q = (isGate (r.trim rs j) ∧ Imp (took (r.trim rs j) want) ((k.run P (x.ev (r.trim rs)) (y.ev (r.trim rs))).isSome = true) ∧ stepV P (some (V.opt (took (r.trim rs j) want) ((k.run P (x.ev (r.trim rs)) (y.ev (r.trim rs))).getD .bad))) d D os ks r h Q) := k_gpure rfl
theorem k_un {o : UnOp} {x : RX} : wpK P (.os D (⟨d, (.un o x), none, rs⟩ :: os) :: ks) .normal r h Q = stepV P (unV o (x.ev (r.trim rs))) d D os ks r h Q := k_pure rfl
theorem kg_un {o : UnOp} {x : RX} {j : Nat} {want : Bool} : wpK P (.os D (⟨d, (.un o x), some (j, want), rs⟩ :: os) :: ks) .normal r h Q = (isGate (r.trim rs j) ∧ Imp (took (r.trim rs j) want) ((unV o (x.ev (r.trim rs))).isSome = true) ∧ stepV P (some (V.opt (took (r.trim rs j) want) ((unV o (x.ev (r.trim rs))).getD .bad))) d D os ks r h Q) := k_gpure rfl
theorem k_fn {f : FuncId} {cs : List RX} : wpK P (.os D (⟨d, (.fn f cs), none, rs⟩ :: os) :: ks) .normal r h Q = stepV P (some (V.func f (RX.evs (r.trim rs) cs))) d D os ks r h Q := k_pure rfl
theorem kg_fn {f : FuncId} {cs : List RX} {j : Nat} {want : Bool} : wpK P (.os D (⟨d, (.fn f cs), some (j, want), rs⟩ :: os) :: ks) .normal r h Q = (isGate (r.trim rs j) ∧ Imp (took (r.trim rs j) want) ((some (V.func f (RX.evs (r.trim rs) cs))).isSome = true) ∧ stepV P (some (V.opt (took (r.trim rs j) want) ((some (V.func f (RX.evs (r.trim rs) cs))).getD .bad))) d D os ks r h Q) := k_gpure rfl
theorem k_ifc {t : TypeId} {x : RX} : wpK P (.os D (⟨d, (.ifc t x), none, rs⟩ :: os) :: ks) .normal r h Q = stepV P (some (V.iface t (x.ev (r.trim rs)))) d D os ks r h Q := k_pure rfl
theorem kg_ifc {t : TypeId} {x : RX} {j : Nat} {want : Bool} : wpK P (.os D (⟨d, (.ifc t x), some (j, want), rs⟩ :: os) :: ks) .normal r h Q = (isGate (r.trim rs j) ∧ Imp (took (r.trim rs j) want) ((some (V.iface t (x.ev (r.trim rs)))).isSome = true) ∧ stepV P (some (V.opt (took (r.trim rs j) want) ((some (V.iface t (x.ev (r.trim rs)))).getD .bad))) d D os ks r h Q) := k_gpure rfl
theorem k_slstr {x : RX} {lo hi m3 : Option RX} : wpK P (.os D (⟨d, (.slstr x lo hi m3), none, rs⟩ :: os) :: ks) .normal r h Q = stepV P (sliceStr (x.ev (r.trim rs)) (RX.opt (r.trim rs) lo) (RX.opt (r.trim rs) hi) (RX.opt (r.trim rs) m3)) d D os ks r h Q := k_pure rfl
theorem kg_slstr {x : RX} {lo hi m3 : Option RX} {j : Nat} {want : Bool} : wpK P (.os D (⟨d, (.slstr x lo hi m3), some (j, want), rs⟩ :: os) :: ks) .normal r h Q = (isGate (r.trim rs j) ∧ Imp (took (r.trim rs j) want) ((sliceStr (x.ev (r.trim rs)) (RX.opt (r.trim rs) lo) (RX.opt (r.trim rs) hi) (RX.opt (r.trim rs) m3)).isSome = true) ∧ stepV P (some (V.opt (took (r.trim rs j) want) ((sliceStr (x.ev (r.trim rs)) (RX.opt (r.trim rs) lo) (RX.opt (r.trim rs) hi) (RX.opt (r.trim rs) m3)).getD .bad))) d D os ks r h Q) := k_gpure rfl
theorem k_sl {n : Nat} {x : RX} {lo hi m3 : Option RX} : wpK P (.os D (⟨d, (.sl n x lo hi m3), none, rs⟩ :: os) :: ks) .normal r h Q = stepV P (sliceV n (x.ev (r.trim rs)) (RX.opt (r.trim rs) lo) (RX.opt (r.trim rs) hi) (RX.opt (r.trim rs) m3)) d D os ks r h Q := k_pure rfl
theorem kg_sl {n : Nat} {x : RX} {lo hi m3 : Option RX} {j : Nat} {want : Bool} : wpK P (.os D (⟨d, (.sl n x lo hi m3), some (j, want), rs⟩ :: os) :: ks) .normal r h Q = (isGate (r.trim rs j) ∧ Imp (took (r.trim rs j) want) ((sliceV n (x.ev (r.trim rs)) (RX.opt (r.trim rs) lo) (RX.opt (r.trim rs) hi) (RX.opt (r.trim rs) m3)).isSome = true) ∧ stepV P (some (V.opt (took (r.trim rs j) want) ((sliceV n (x.ev (r.trim rs)) (RX.opt (r.trim rs) lo) (RX.opt (r.trim rs) hi) (RX.opt (r.trim rs) m3)).getD .bad))) d D os ks r h Q) := k_gpure rfl
theorem k_fa {o : Nat} {x : RX} : wpK P (.os D (⟨d, (.fa o x), none, rs⟩ :: os) :: ks) .normal r h Q = stepV P (faV o (x.ev (r.trim rs))) d D os ks r h Q := k_pure rfl
theorem kg_fa {o : Nat} {x : RX} {j : Nat} {want : Bool} : wpK P (.os D (⟨d, (.fa o x), some (j, want), rs⟩ :: os) :: ks) .normal r h Q = (isGate (r.trim rs j) ∧ Imp (took (r.trim rs j) want) ((faV o (x.ev (r.trim rs))).isSome = true) ∧ stepV P (some (V.opt (took (r.trim rs j) want) ((faV o (x.ev (r.trim rs))).getD .bad))) d D os ks r h Q) := k_gpure rfl
theorem k_fld1 {o : Nat} {x : RX} : wpK P (.os D (⟨d, (.fld1 o x), none, rs⟩ :: os) :: ks) .normal r h Q = stepV P ((x.ev (r.trim rs)).onAgg none fun cs => cs[o]?) d D os ks r h Q := k_pure rfl
theorem kg_fld1 {o : Nat} {x : RX} {j : Nat} {want : Bool} : wpK P (.os D (⟨d, (.fld1 o x), some (j, want), rs⟩ :: os) :: ks) .normal r h Q = (isGate (r.trim rs j) ∧ Imp (took (r.trim rs j) want) (((x.ev (r.trim rs)).onAgg none fun cs => cs[o]?).isSome = true) ∧ stepV P (some (V.opt (took (r.trim rs j) want) (((x.ev (r.trim rs)).onAgg none fun cs => cs[o]?).getD .bad))) d D os ks r h Q) := k_gpure rfl
theorem k_fldn {o n : Nat} {x : RX} : wpK P (.os D (⟨d, (.fldn o n x), none, rs⟩ :: os) :: ks) .normal r h Q = stepV P ((x.ev (r.trim rs)).onAgg none fun cs => some (V.agg ((cs.drop o).take n))) d D os ks r h Q := k_pure rfl
theorem kg_fldn {o n : Nat} {x : RX} {j : Nat} {want : Bool} : wpK P (.os D (⟨d, (.fldn o n x), some (j, want), rs⟩ :: os) :: ks) .normal r h Q = (isGate (r.trim rs j) ∧ Imp (took (r.trim rs j) want) (((x.ev (r.trim rs)).onAgg none fun cs => some (V.agg ((cs.drop o).take n))).isSome = true) ∧ stepV P (some (V.opt (took (r.trim rs j) want) (((x.ev (r.trim rs)).onAgg none fun cs => some (V.agg ((cs.drop o).take n))).getD .bad))) d D os ks r h Q) := k_gpure rfl
theorem k_ia {n : Nat} {x i : RX} : wpK P (.os D (⟨d, (.ia n x i), none, rs⟩ :: os) :: ks) .normal r h Q = stepV P (iaV n (x.ev (r.trim rs)) (i.ev (r.trim rs))) d D os ks r h Q := k_pure rfl
theorem kg_ia {n : Nat} {x i : RX} {j : Nat} {want : Bool} : wpK P (.os D (⟨d, (.ia n x i), some (j, want), rs⟩ :: os) :: ks) .normal r h Q = (isGate (r.trim rs j) ∧ Imp (took (r.trim rs j) want) ((iaV n (x.ev (r.trim rs)) (i.ev (r.trim rs))).isSome = true) ∧ stepV P (some (V.opt (took (r.trim rs j) want) ((iaV n (x.ev (r.trim rs)) (i.ev (r.trim rs))).getD .bad))) d D os ks r h Q) := k_gpure rfl
theorem k_iaa {m n : Nat} {x i : RX} : wpK P (.os D (⟨d, (.iaa m n x i), none, rs⟩ :: os) :: ks) .normal r h Q = stepV P ((indexArr m n).run (x.ev (r.trim rs)) (i.ev (r.trim rs))) d D os ks r h Q := k_pure rfl
theorem kg_iaa {m n : Nat} {x i : RX} {j : Nat} {want : Bool} : wpK P (.os D (⟨d, (.iaa m n x i), some (j, want), rs⟩ :: os) :: ks) .normal r h Q = (isGate (r.trim rs j) ∧ Imp (took (r.trim rs j) want) (((indexArr m n).run (x.ev (r.trim rs)) (i.ev (r.trim rs))).isSome = true) ∧ stepV P (some (V.opt (took (r.trim rs j) want) (((indexArr m n).run (x.ev (r.trim rs)) (i.ev (r.trim rs))).getD .bad))) d D os ks r h Q) := k_gpure rfl
theorem k_ixs {x i : RX} : wpK P (.os D (⟨d, (.ixs x i), none, rs⟩ :: os) :: ks) .normal r h Q = stepV P (indexStr.run (x.ev (r.trim rs)) (i.ev (r.trim rs))) d D os ks r h Q := k_pure rfl
theorem kg_ixs {x i : RX} {j : Nat} {want : Bool} : wpK P (.os D (⟨d, (.ixs x i), some (j, want), rs⟩ :: os) :: ks) .normal r h Q = (isGate (r.trim rs j) ∧ Imp (took (r.trim rs j) want) ((indexStr.run (x.ev (r.trim rs)) (i.ev (r.trim rs))).isSome = true) ∧ stepV P (some (V.opt (took (r.trim rs j) want) ((indexStr.run (x.ev (r.trim rs)) (i.ev (r.trim rs))).getD .bad))) d D os ks r h Q) := k_gpure rfl
theorem k_ix {t : TypeId} {x i : RX} : wpK P (.os D (⟨d, (.ix t x i), none, rs⟩ :: os) :: ks) .normal r h Q = stepV P ((indexC P t).run (x.ev (r.trim rs)) (i.ev (r.trim rs))) d D os ks r h Q := k_pure rfl
theorem kg_ix {t : TypeId} {x i : RX} {j : Nat} {want : Bool} : wpK P (.os D (⟨d, (.ix t x i), some (j, want), rs⟩ :: os) :: ks) .normal r h Q = (isGate (r.trim rs j) ∧ Imp (took (r.trim rs j) want) (((indexC P t).run (x.ev (r.trim rs)) (i.ev (r.trim rs))).isSome = true) ∧ stepV P (some (V.opt (took (r.trim rs j) want) (((indexC P t).run (x.ev (r.trim rs)) (i.ev (r.trim rs))).getD .bad))) d D os ks r h Q) := k_gpure rfl
theorem k_look {k : KK} {z : V} {ok : Bool} {x i : RX} : wpK P (.os D (⟨d, (.look k z ok x i), none, rs⟩ :: os) :: ks) .normal r h Q = stepV P (lookupU k.eq z ok h (x.ev (r.trim rs)) (i.ev (r.trim rs))) d D os ks r h Q := k_pure rfl
theorem kg_look {k : KK} {z : V} {ok : Bool} {x i : RX} {j : Nat} {want : Bool} : wpK P (.os D (⟨d, (.look k z ok x i), some (j, want), rs⟩ :: os) :: ks) .normal r h Q = (isGate (r.trim rs j) ∧ Imp (took (r.trim rs j) want) ((lookupU k.eq z ok h (x.ev (r.trim rs)) (i.ev (r.trim rs))).isSome = true) ∧ stepV P (some (V.opt (took (r.trim rs j) want) ((lookupU k.eq z ok h (x.ev (r.trim rs)) (i.ev (r.trim rs))).getD .bad))) d D os ks r h Q) := k_gpure rfl
theorem k_ext {x : RX} {i : Nat} : wpK P (.os D (⟨d, (.ext x i), none, rs⟩ :: os) :: ks) .normal r h Q = stepV P ((x.ev (r.trim rs)).onTup none fun vs => vs[i]?) d D os ks r h Q := k_pure rfl
theorem kg_ext {x : RX} {i : Nat} {j : Nat} {want : Bool} : wpK P (.os D (⟨d, (.ext x i), some (j, want), rs⟩ :: os) :: ks) .normal r h Q = (isGate (r.trim rs j) ∧ Imp (took (r.trim rs j) want) (((x.ev (r.trim rs)).onTup none fun vs => vs[i]?).isSome = true) ∧ stepV P (some (V.opt (took (r.trim rs j) want) (((x.ev (r.trim rs)).onTup none fun vs => vs[i]?).getD .bad))) d D os ks r h Q) := k_gpure rfl
theorem k_mn {args : List RX} : wpK P (.os D (⟨d, (.mn args), none, rs⟩ :: os) :: ks) .normal r h Q = stepV P (pickV (fun b a => !Int.leB a b) (RX.evs (r.trim rs) args)) d D os ks r h Q := k_pure rfl
theorem kg_mn {args : List RX} {j : Nat} {want : Bool} : wpK P (.os D (⟨d, (.mn args), some (j, want), rs⟩ :: os) :: ks) .normal r h Q = (isGate (r.trim rs j) ∧ Imp (took (r.trim rs j) want) ((pickV (fun b a => !Int.leB a b) (RX.evs (r.trim rs) args)).isSome = true) ∧ stepV P (some (V.opt (took (r.trim rs j) want) ((pickV (fun b a => !Int.leB a b) (RX.evs (r.trim rs) args)).getD .bad))) d D os ks r h Q) := k_gpure rfl
theorem k_mx {args : List RX} : wpK P (.os D (⟨d, (.mx args), none, rs⟩ :: os) :: ks) .normal r h Q = stepV P (pickV (fun b a => !Int.leB b a) (RX.evs (r.trim rs) args)) d D os ks r h Q := k_pure rfl
theorem kg_mx {args : List RX} {j : Nat} {want : Bool} : wpK P (.os D (⟨d, (.mx args), some (j, want), rs⟩ :: os) :: ks) .normal r h Q = (isGate (r.trim rs j) ∧ Imp (took (r.trim rs j) want) ((pickV (fun b a => !Int.leB b a) (RX.evs (r.trim rs) args)).isSome = true) ∧ stepV P (some (V.opt (took (r.trim rs j) want) ((pickV (fun b a => !Int.leB b a) (RX.evs (r.trim rs) args)).getD .bad))) d D os ks r h Q) := k_gpure rfl
theorem k_cvint {k : IntKind} {x : RX} : wpK P (.os D (⟨d, (.cv (.int k) x), none, rs⟩ :: os) :: ks) .normal r h Q = stepV P (cvI k (x.ev (r.trim rs))) d D os ks r h Q := k_pure rfl
theorem kg_cvint {k : IntKind} {x : RX} {j : Nat} {want : Bool} : wpK P (.os D (⟨d, (.cv (.int k) x), some (j, want), rs⟩ :: os) :: ks) .normal r h Q = (isGate (r.trim rs j) ∧ Imp (took (r.trim rs j) want) ((cvI k (x.ev (r.trim rs))).isSome = true) ∧ stepV P (some (V.opt (took (r.trim rs j) want) ((cvI k (x.ev (r.trim rs))).getD .bad))) d D os ks r h Q) := k_gpure rfl
theorem k_lenslice {x : RX} : wpK P (.os D (⟨d, (.len .slice x), none, rs⟩ :: os) :: ks) .normal r h Q = stepV P (lenSl (x.ev (r.trim rs))) d D os ks r h Q := k_pure rfl
theorem kg_lenslice {x : RX} {j : Nat} {want : Bool} : wpK P (.os D (⟨d, (.len .slice x), some (j, want), rs⟩ :: os) :: ks) .normal r h Q = (isGate (r.trim rs j) ∧ Imp (took (r.trim rs j) want) ((lenSl (x.ev (r.trim rs))).isSome = true) ∧ stepV P (some (V.opt (took (r.trim rs j) want) ((lenSl (x.ev (r.trim rs))).getD .bad))) d D os ks r h Q) := k_gpure rfl
theorem k_lenstr {x : RX} : wpK P (.os D (⟨d, (.len .str x), none, rs⟩ :: os) :: ks) .normal r h Q = stepV P (lenSt (x.ev (r.trim rs))) d D os ks r h Q := k_pure rfl
theorem kg_lenstr {x : RX} {j : Nat} {want : Bool} : wpK P (.os D (⟨d, (.len .str x), some (j, want), rs⟩ :: os) :: ks) .normal r h Q = (isGate (r.trim rs j) ∧ Imp (took (r.trim rs j) want) ((lenSt (x.ev (r.trim rs))).isSome = true) ∧ stepV P (some (V.opt (took (r.trim rs j) want) ((lenSt (x.ev (r.trim rs))).getD .bad))) d D os ks r h Q) := k_gpure rfl
theorem k_lenarr {n : Nat} {x : RX} : wpK P (.os D (⟨d, (.len (.arr n) x), none, rs⟩ :: os) :: ks) .normal r h Q = stepV P (some (V.int .i64 n)) d D os ks r h Q := k_pure rfl
theorem kg_lenarr {n : Nat} {x : RX} {j : Nat} {want : Bool} : wpK P (.os D (⟨d, (.len (.arr n) x), some (j, want), rs⟩ :: os) :: ks) .normal r h Q = (isGate (r.trim rs j) ∧ Imp (took (r.trim rs j) want) ((some (V.int .i64 n)).isSome = true) ∧ stepV P (some (V.opt (took (r.trim rs j) want) ((some (V.int .i64 n)).getD .bad))) d D os ks r h Q) := k_gpure rfl
theorem k_new {z : List V} : wpK P (.os D (⟨d, (.new z), none, rs⟩ :: os) :: ks) .normal r h Q = stepO P (orH (.ptr (pa h.next) 0) (newCells h z)) d D os ks r h Q := k_run rfl rfl
theorem kg_new {z : List V} {j : Nat} {want : Bool} : wpK P (.os D (⟨d, (.new z), some (j, want), rs⟩ :: os) :: ks) .normal r h Q = gateK P (r.trim rs j) want d (.new z) rs D os ks r h Q := k_gate rfl
theorem k_box {x : RX} : wpK P (.os D (⟨d, (.box x), none, rs⟩ :: os) :: ks) .normal r h Q = stepO P (boxO (x.ev (r.trim rs)).good (orH (.ptr (pa h.next) 0) (newCells h (x.ev (r.trim rs)).cells))) d D os ks r h Q := k_run rfl rfl
theorem kg_box {x : RX} {j : Nat} {want : Bool} : wpK P (.os D (⟨d, (.box x), some (j, want), rs⟩ :: os) :: ks) .normal r h Q = gateK P (r.trim rs j) want d (.box x) rs D os ks r h Q := k_gate rfl
theorem k_bsl {n m : Nat} {z : List V} {ps : List (Nat × Nat × RX)} : wpK P (.os D (⟨d, (.bsl n m z ps), none, rs⟩ :: os) :: ks) .normal r h Q = stepO P (bslO n h (fillR (repeatV z n) (evPs (r.trim rs) ps))) d D os ks r h Q := by rw [k_run rfl rfl, run_bsl]
theorem kg_bsl {n m : Nat} {z : List V} {ps : List (Nat × Nat × RX)} {j : Nat} {want : Bool} : wpK P (.os D (⟨d, (.bsl n m z ps), some (j, want), rs⟩ :: os) :: ks) .normal r h Q = gateK P (r.trim rs j) want d (.bsl n m z ps) rs D os ks r h Q := k_gate rfl
theorem k_st {n : Nat} {x y : RX} : wpK P (.os D (⟨d, (.st n x y), none, rs⟩ :: os) :: ks) .normal r h Q = stepO P (orH .bad (storeV n h (x.ev (r.trim rs)) (y.ev (r.trim rs)))) d D os ks r h Q := k_run rfl rfl
theorem kg_st {n : Nat} {x y : RX} {j : Nat} {want : Bool} : wpK P (.os D (⟨d, (.st n x y), some (j, want), rs⟩ :: os) :: ks) .normal r h Q = gateK P (r.trim rs j) want d (.st n x y) rs D os ks r h Q := k_gate rfl
theorem k_mksl {n : Nat} {z : List V} {l c : RX} : wpK P (.os D (⟨d, (.mksl n z l c), none, rs⟩ :: os) :: ks) .normal r h Q = stepO P (makeSliceV n z (l.ev (r.trim rs)) (c.ev (r.trim rs)) h) d D os ks r h Q := k_run rfl rfl
theorem kg_mksl {n : Nat} {z : List V} {l c : RX} {j : Nat} {want : Bool} : wpK P (.os D (⟨d, (.mksl n z l c), some (j, want), rs⟩ :: os) :: ks) .normal r h Q = gateK P (r.trim rs j) want d (.mksl n z l c) rs D os ks r h Q := k_gate rfl
theorem k_upd {k : KK} {m i x : RX} : wpK P (.os D (⟨d, (.upd k m i x), none, rs⟩ :: os) :: ks) .normal r h Q = stepO P (orH .bad (updV k.eq h (m.ev (r.trim rs)) (i.ev (r.trim rs)) (x.ev (r.trim rs)))) d D os ks r h Q := k_run rfl rfl
theorem kg_upd {k : KK} {m i x : RX} {j : Nat} {want : Bool} : wpK P (.os D (⟨d, (.upd k m i x), some (j, want), rs⟩ :: os) :: ks) .normal r h Q = gateK P (r.trim rs j) want d (.upd k m i x) rs D os ks r h Q := k_gate rfl
theorem k_mkm {x : Option RX} : wpK P (.os D (⟨d, (.mkm x), none, rs⟩ :: os) :: ks) .normal r h Q = stepO P (makeMapV (RX.opt (r.trim rs) x) h) d D os ks r h Q := k_run rfl rfl
theorem kg_mkm {x : Option RX} {j : Nat} {want : Bool} : wpK P (.os D (⟨d, (.mkm x), some (j, want), rs⟩ :: os) :: ks) .normal r h Q = gateK P (r.trim rs j) want d (.mkm x) rs D os ks r h Q := k_gate rfl
theorem k_rngs {x : RX} : wpK P (.os D (⟨d, (.rngs x), none, rs⟩ :: os) :: ks) .normal r h Q = stepO P (rngO (x.ev (r.trim rs)) h) d D os ks r h Q := (k_run rfl rfl).trans (by first | rfl | (unfold rngO; simp only [G.run]; cases x.ev (r.trim rs) <;> rfl) | (unfold rngO; cases x.ev (r.trim rs) <;> rfl))
theorem kg_rngs {x : RX} {j : Nat} {want : Bool} : wpK P (.os D (⟨d, (.rngs x), some (j, want), rs⟩ :: os) :: ks) .normal r h Q = gateK P (r.trim rs j) want d (.rngs x) rs D os ks r h Q := k_gate rfl
theorem k_nxt {x : RX} : wpK P (.os D (⟨d, (.nxt x), none, rs⟩ :: os) :: ks) .normal r h Q = stepO P (nextV (x.ev (r.trim rs)) h) d D os ks r h Q := k_run rfl rfl
theorem kg_nxt {x : RX} {j : Nat} {want : Bool} : wpK P (.os D (⟨d, (.nxt x), some (j, want), rs⟩ :: os) :: ks) .normal r h Q = gateK P (r.trim rs j) want d (.nxt x) rs D os ks r h Q := k_gate rfl
theorem k_app {n : Nat} {s x : RX} : wpK P (.os D (⟨d, (.app n s x), none, rs⟩ :: os) :: ks) .normal r h Q = stepO P (appV n (s.ev (r.trim rs)) (x.ev (r.trim rs)) h) d D os ks r h Q := k_run rfl rfl
theorem kg_app {n : Nat} {s x : RX} {j : Nat} {want : Bool} : wpK P (.os D (⟨d, (.app n s x), some (j, want), rs⟩ :: os) :: ks) .normal r h Q = gateK P (r.trim rs j) want d (.app n s x) rs D os ks r h Q := k_gate rfl
theorem k_copy {n : Nat} {d' s : RX} : wpK P (.os D (⟨d, (.copy n d' s), none, rs⟩ :: os) :: ks) .normal r h Q = stepO P (copyV n (d'.ev (r.trim rs)) (s.ev (r.trim rs)) h) d D os ks r h Q := k_run rfl rfl
theorem kg_copy {n : Nat} {d' s : RX} {j : Nat} {want : Bool} : wpK P (.os D (⟨d, (.copy n d' s), some (j, want), rs⟩ :: os) :: ks) .normal r h Q = gateK P (r.trim rs j) want d (.copy n d' s) rs D os ks r h Q := k_gate rfl
theorem k_lenmap {x : RX} : wpK P (.os D (⟨d, (.len .map x), none, rs⟩ :: os) :: ks) .normal r h Q = stepO P (lenMap [x.ev (r.trim rs)] h) d D os ks r h Q := k_run rfl rfl
theorem kg_lenmap {x : RX} {j : Nat} {want : Bool} : wpK P (.os D (⟨d, (.len .map x), some (j, want), rs⟩ :: os) :: ks) .normal r h Q = gateK P (r.trim rs j) want d (.len .map x) rs D os ks r h Q := k_gate rfl
theorem k_cvbytes {x : RX} : wpK P (.os D (⟨d, (.cv .bytes x), none, rs⟩ :: os) :: ks) .normal r h Q = stepO P (convBytes.run (x.ev (r.trim rs)) h) d D os ks r h Q := k_run rfl rfl
theorem kg_cvbytes {x : RX} {j : Nat} {want : Bool} : wpK P (.os D (⟨d, (.cv .bytes x), some (j, want), rs⟩ :: os) :: ks) .normal r h Q = gateK P (r.trim rs j) want d (.cv .bytes x) rs D os ks r h Q := k_gate rfl
theorem k_cvstr {x : RX} : wpK P (.os D (⟨d, (.cv .str x), none, rs⟩ :: os) :: ks) .normal r h Q = stepO P (convStr.run (x.ev (r.trim rs)) h) d D os ks r h Q := k_run rfl rfl
theorem kg_cvstr {x : RX} {j : Nat} {want : Bool} : wpK P (.os D (⟨d, (.cv .str x), some (j, want), rs⟩ :: os) :: ks) .normal r h Q = gateK P (r.trim rs j) want d (.cv .str x) rs D os ks r h Q := k_gate rfl
theorem k_cvoth {s d' : TypeId} {x : RX} : wpK P (.os D (⟨d, (.cv (.other s d') x), none, rs⟩ :: os) :: ks) .normal r h Q = stepO P ((convC P s d').run (x.ev (r.trim rs)) h) d D os ks r h Q := k_run rfl rfl
theorem kg_cvoth {s d' : TypeId} {x : RX} {j : Nat} {want : Bool} : wpK P (.os D (⟨d, (.cv (.other s d') x), some (j, want), rs⟩ :: os) :: ks) .normal r h Q = gateK P (r.trim rs j) want d (.cv (.other s d') x) rs D os ks r h Q := k_gate rfl
theorem kg_call {f : FuncId} {args : List RX} {j : Nat} {want : Bool} : wpK P (.os D (⟨d, (.call f args), some (j, want), rs⟩ :: os) :: ks) .normal r h Q = gateK P (r.trim rs j) want d (.call f args) rs D os ks r h Q := k_gate rfl
theorem kg_callv {f : RX} {args : List RX} {j : Nat} {want : Bool} : wpK P (.os D (⟨d, (.callv f args), some (j, want), rs⟩ :: os) :: ks) .normal r h Q = gateK P (r.trim rs j) want d (.callv f args) rs D os ks r h Q := k_gate rfl
end
end Go.Proofs.YtigflhomnoledaaGreatDoor.Am
namespace Go.Proofs.YtigflhomnoledaaGreatDoor.Am
variable [Lay]
open Go Go.RowKit
theorem newCells_if (h : Heap) (vs : List V) : newCells h vs = if vs.length ≤ top then some (h.new (.ofL vs 0 false)) else none := by
  by_cases hl : vs.length ≤ top
  · rw [if_pos hl, newCells_eq hl]
  · rw [if_neg hl]
    unfold newCells
    rw [show Nat.ble vs.length top = false from by rw [← Bool.not_eq_true, Nat.ble_eq]; exact hl]
    rfl
theorem lay_if (h : Heap) (n : Nat) (b : Pa) (off : Nat) (y : V) (vs : List V) (esz : Nat) (st : Bool) :
    layB n h b off y (.ofL vs esz st) = if y.cells.length = n ∧ ones y.cells = true ∧ off + n ≤ vs.length then some (h.set b (.ofL (spl vs off y.cells) esz st)) else none := by
  by_cases hc : y.cells.length = n ∧ ones y.cells = true ∧ off + n ≤ vs.length
  · rw [if_pos hc, lay_ofL hc.1 hc.2.1 hc.2.2]
  · rw [if_neg hc]
    unfold layB
    by_cases h1 : y.cells.length = n
    · rw [show Nat.beq y.cells.length n = true from by rw [Nat.beq_eq]; exact h1]
      simp only [cond_true, Blk.ofL, Blk.on]
      by_cases h2 : ones y.cells = true
      · have h3 : ¬ off + y.cells.length ≤ vs.length := fun q => hc ⟨h1, h2, by omega⟩
        rw [show Nat.ble (off + y.cells.length) vs.length = false from by rw [← Bool.not_eq_true, Nat.ble_eq]; exact h3]
        rfl
      · rw [show ones y.cells = false from by simpa using h2, Bool.and_false]
        rfl
    · rw [show Nat.beq y.cells.length n = false from by rw [← Bool.not_eq_true, Nat.beq_eq]; exact h1]
      rfl
theorem fill_if (cells : List V) (off size : Nat) (v : V) (rest : List (Nat × Nat × V)) :
    fillR cells ((off, size, v) :: rest) = if v.good = true ∧ v.cells.length = size ∧ off + size ≤ cells.length then fillR (spl cells off v.cells) rest else none := by
  by_cases hc : v.good = true ∧ v.cells.length = size ∧ off + size ≤ cells.length
  · rw [if_pos hc, fill_cons hc.1 hc.2.1 hc.2.2]
  · rw [if_neg hc]
    simp only [fillR]
    cases hb : (v.good && (Nat.beq v.cells.length size && Nat.ble (off + v.cells.length) cells.length)) with
    | false => rfl
    | true =>
      simp only [Bool.and_eq_true, Nat.beq_eq, Nat.ble_eq] at hb
      exact absurd ⟨hb.1, hb.2.1, by omega⟩ hc
theorem cells_bool (b : Bool) : V.cells (.bool b : V) = [.bool b] := rfl
theorem one_bool (b : Bool) : V.one (.bool b : V) = true := rfl
theorem good_bool (b : Bool) : V.good (.bool b : V) = true := rfl
theorem cells_int (k : IntKind) (n : Int) : V.cells (.int k n : V) = [.int k n] := rfl
theorem one_int (k : IntKind) (n : Int) : V.one (.int k n : V) = true := rfl
theorem good_int (k : IntKind) (n : Int) : V.good (.int k n : V) = true := rfl
theorem cells_str (s : List UInt8) : V.cells (.str s : V) = [.str s] := rfl
theorem one_str (s : List UInt8) : V.one (.str s : V) = true := rfl
theorem good_str (s : List UInt8) : V.good (.str s : V) = true := rfl
theorem cells_nilptr : V.cells (.nilptr : V) = [.nilptr] := rfl
theorem one_nilptr  : V.one (.nilptr : V) = true := rfl
theorem good_nilptr  : V.good (.nilptr : V) = true := rfl
theorem cells_ptr (b : Pa) (o : Nat) : V.cells (.ptr b o : V) = [.ptr b o] := rfl
theorem one_ptr (b : Pa) (o : Nat) : V.one (.ptr b o : V) = true := rfl
theorem good_ptr (b : Pa) (o : Nat) : V.good (.ptr b o : V) = true := rfl
theorem cells_slice (b : Pa) (o l c : Nat) : V.cells (.slice b o l c : V) = [.slice b o l c] := rfl
theorem one_slice (b : Pa) (o l c : Nat) : V.one (.slice b o l c : V) = true := rfl
theorem good_slice (b : Pa) (o l c : Nat) : V.good (.slice b o l c : V) = true := rfl
theorem cells_gslice (b : Pa) (o l c : Nat) : V.cells (.gslice b o l c : V) = [.gslice b o l c] := rfl
theorem one_gslice (b : Pa) (o l c : Nat) : V.one (.gslice b o l c : V) = true := rfl
theorem good_gslice (b : Pa) (o l c : Nat) : V.good (.gslice b o l c : V) = true := rfl
theorem cells_tslice (b : Pa) (o l c : Nat) : V.cells (.tslice b o l c : V) = [.tslice b o l c] := rfl
theorem one_tslice (b : Pa) (o l c : Nat) : V.one (.tslice b o l c : V) = true := rfl
theorem good_tslice (b : Pa) (o l c : Nat) : V.good (.tslice b o l c : V) = true := rfl
theorem cells_nilslice : V.cells (.nilslice : V) = [.nilslice] := rfl
theorem one_nilslice  : V.one (.nilslice : V) = true := rfl
theorem good_nilslice  : V.good (.nilslice : V) = true := rfl
theorem cells_nilmap : V.cells (.nilmap : V) = [.nilmap] := rfl
theorem one_nilmap  : V.one (.nilmap : V) = true := rfl
theorem good_nilmap  : V.good (.nilmap : V) = true := rfl
theorem cells_map (b : Pa) : V.cells (.map b : V) = [.map b] := rfl
theorem one_map (b : Pa) : V.one (.map b : V) = true := rfl
theorem good_map (b : Pa) : V.good (.map b : V) = true := rfl
theorem cells_func (f : FuncId) (cs : List V) : V.cells (.func f cs : V) = [.func f cs] := rfl
theorem one_func (f : FuncId) (cs : List V) : V.one (.func f cs : V) = true := rfl
theorem good_func (f : FuncId) (cs : List V) : V.good (.func f cs : V) = true := rfl
theorem cells_nilfunc : V.cells (.nilfunc : V) = [.nilfunc] := rfl
theorem one_nilfunc  : V.one (.nilfunc : V) = true := rfl
theorem good_nilfunc  : V.good (.nilfunc : V) = true := rfl
theorem cells_iface (t : TypeId) (v : V) : V.cells (.iface t v : V) = [.iface t v] := rfl
theorem one_iface (t : TypeId) (v : V) : V.one (.iface t v : V) = true := rfl
theorem good_iface (t : TypeId) (v : V) : V.good (.iface t v : V) = true := rfl
theorem cells_nilIface : V.cells (.nilIface : V) = [.nilIface] := rfl
theorem one_nilIface  : V.one (.nilIface : V) = true := rfl
theorem good_nilIface  : V.good (.nilIface : V) = true := rfl
theorem cells_agg (cs : List V) : V.cells (.agg cs) = cs := rfl
theorem good_agg (cs : List V) : V.good (.agg cs) = true := rfl
theorem good_tuple (cs : List V) : V.good (.tuple cs) = true := rfl
theorem add11 (n : Nat) : n + 1 + 1 = n + 2 := rfl
theorem add21 (n : Nat) : n + 2 + 1 = n + 3 := rfl
theorem add31 (n : Nat) : n + 3 + 1 = n + 4 := rfl
theorem add41 (n : Nat) : n + 4 + 1 = n + 5 := rfl
theorem add51 (n : Nat) : n + 5 + 1 = n + 6 := rfl
theorem add61 (n : Nat) : n + 6 + 1 = n + 7 := rfl
theorem add71 (n : Nat) : n + 7 + 1 = n + 8 := rfl
theorem add81 (n : Nat) : n + 8 + 1 = n + 9 := rfl
theorem add91 (n : Nat) : n + 9 + 1 = n + 10 := rfl
theorem add101 (n : Nat) : n + 10 + 1 = n + 11 := rfl
theorem add111 (n : Nat) : n + 11 + 1 = n + 12 := rfl
theorem add121 (n : Nat) : n + 12 + 1 = n + 13 := rfl
theorem add131 (n : Nat) : n + 13 + 1 = n + 14 := rfl
theorem add141 (n : Nat) : n + 14 + 1 = n + 15 := rfl
theorem add151 (n : Nat) : n + 15 + 1 = n + 16 := rfl
theorem nx1 (n : Nat) : (n + 1 = n) = False := eq_false (by omega)
theorem xn1 (n : Nat) : (n = n + 1) = False := eq_false (by omega)
theorem nx2 (n : Nat) : (n + 2 = n) = False := eq_false (by omega)
theorem xn2 (n : Nat) : (n = n + 2) = False := eq_false (by omega)
theorem nx3 (n : Nat) : (n + 3 = n) = False := eq_false (by omega)
theorem xn3 (n : Nat) : (n = n + 3) = False := eq_false (by omega)
theorem nx4 (n : Nat) : (n + 4 = n) = False := eq_false (by omega)
theorem xn4 (n : Nat) : (n = n + 4) = False := eq_false (by omega)
theorem nx5 (n : Nat) : (n + 5 = n) = False := eq_false (by omega)
theorem xn5 (n : Nat) : (n = n + 5) = False := eq_false (by omega)
theorem nx6 (n : Nat) : (n + 6 = n) = False := eq_false (by omega)
theorem xn6 (n : Nat) : (n = n + 6) = False := eq_false (by omega)
theorem nx7 (n : Nat) : (n + 7 = n) = False := eq_false (by omega)
theorem xn7 (n : Nat) : (n = n + 7) = False := eq_false (by omega)
theorem nx8 (n : Nat) : (n + 8 = n) = False := eq_false (by omega)
theorem xn8 (n : Nat) : (n = n + 8) = False := eq_false (by omega)
theorem gateK_tt {P : Program} {r : RF} {h : Heap} {Q : Ex → RF → Heap → Prop} {ks : List KS} {os : List GO} {D : Option DS} {d : Option Nat} {g : G} {rs : List Nat} : gateK P (.bool true) true d g rs D os ks r h Q = wpK P (.os D (⟨d, g, none, rs⟩ :: os) :: ks) .normal r h Q := by
  rw [gateK_t]; simp
theorem gateK_ff {P : Program} {r : RF} {h : Heap} {Q : Ex → RF → Heap → Prop} {ks : List KS} {os : List GO} {D : Option DS} {d : Option Nat} {g : G} {rs : List Nat} : gateK P (.bool false) false d g rs D os ks r h Q = wpK P (.os D (⟨d, g, none, rs⟩ :: os) :: ks) .normal r h Q := by
  rw [gateK_f]; simp
theorem gateK_tf {P : Program} {r : RF} {h : Heap} {Q : Ex → RF → Heap → Prop} {ks : List KS} {os : List GO} {D : Option DS} {d : Option Nat} {g : G} {rs : List Nat} : gateK P (.bool true) false d g rs D os ks r h Q = wpK P (.os (pushD D r h (.tuple [])) os :: ks) .normal (r.set d (.tuple [])) h Q := by
  rw [gateK_f]; simp
theorem gateK_ft {P : Program} {r : RF} {h : Heap} {Q : Ex → RF → Heap → Prop} {ks : List KS} {os : List GO} {D : Option DS} {d : Option Nat} {g : G} {rs : List Nat} : gateK P (.bool false) true d g rs D os ks r h Q = wpK P (.os (pushD D r h (.tuple [])) os :: ks) .normal (r.set d (.tuple [])) h Q := by
  rw [gateK_t]; simp
theorem bif_optn (c : Bool) (a b : V) : V.bif (!c) a (V.opt c b) = V.bif (!c) a b := by cases c <;> rfl
theorem imp_T (A : Prop) : (True → A) = A := propext ⟨fun q => q trivial, fun q _ => q⟩
theorem imp_F (A : Prop) : (False → A) = True := propext ⟨fun _ => trivial, fun _ q => q.elim⟩
section
variable {P : Program}
theorem loopK_intro {b : RC} {ks : List KS} {r : RF} {h : Heap} {Q : Ex → RF → Heap → Prop} (I : RF → Heap → Prop) (μ : RF → Heap → Nat) (h0 : I r h)
    (step : ∀ r h, I r h → wpK P [.c b] .normal r h fun e r' h' => e.andThen (I r' h' ∧ μ r' h' < μ r h) (wpK P ks e r' h' Q)) : loopK P b ks r h Q :=
  ⟨I, μ, h0, step⟩
def V.toN : V → Nat
  | .int _ n => n.toNat
  | _ => 0
theorem toN_int (k : IntKind) (n : Int) : V.toN (.int k n) = n.toNat := rfl
theorem callK_intro {f : FuncId} {args : List V} {d : Option Nat} {os : List GO} {D : Option DS} {ks : List KS} {r : RF} {h : Heap} {Q : Ex → RF → Heap → Prop} {K : V → Heap → Prop}
    (c : Ctr P f args h K) (H : ∀ v h', K v h' → wpK P (.os (pushD D r h v) os :: ks) .normal (r.set d v) h' Q) : callK P f args d D os ks r h Q := c.mono H
structure Ext (h h' : Heap) : Prop where
  next : h.next ≤ h'.next
  get : ∀ b, Old h b → h'.get b = h.get b
theorem Ext.refl (h : Heap) : Ext h h := ⟨Nat.le_refl _, fun _ _ => rfl⟩
theorem Ext.old {h h' : Heap} (e : Ext h h') {b : Pa} (hb : Old h b) : Old h' b := Nat.lt_of_lt_of_le hb e.next
theorem Ext.trans {h h' h'' : Heap} (e : Ext h h') (e' : Ext h' h'') : Ext h h'' :=
  ⟨Nat.le_trans e.next e'.next, fun b hb => (e'.get b (e.old hb)).trans (e.get b hb)⟩
theorem Ext.new {h h' : Heap} (e : Ext h h') (k : Blk) : Ext h (h'.new k) :=
  ⟨Nat.le_succ_of_le e.next, fun b hb => by
    rw [get_new, if_neg (fun q => (old_ne (h := h) hb e.next) ▸ q)]
    exact e.get b hb⟩
theorem Ext.set {h h' : Heap} (e : Ext h h') {i : Nat} (hi : h.next ≤ i) (k : Blk) : Ext h (h'.set (pa i) k) :=
  ⟨e.next, fun b hb => by
    rw [get_set, if_neg (fun q => (old_ne (h := h) hb hi) ▸ q)]
    exact e.get b hb⟩
theorem Ext.rd {h h' : Heap} (e : Ext h h') {b : Pa} (hb : Old h b) {vs : List V} (H : Rd h b vs) : Rd h' b vs := by
  unfold Rd at H ⊢
  rw [e.get b hb]
  exact H
def AtL (h : Heap) (b : Pa) (off : Nat) (vs : List V) : Prop := Old h b ∧ ∃ us, Rd h b us ∧ off + vs.length ≤ us.length ∧ (us.drop off).take vs.length = vs
theorem AtL.ext {h h' : Heap} (e : Ext h h') {b : Pa} {off : Nat} {vs : List V} (H : AtL h b off vs) : AtL h' b off vs := by
  obtain ⟨h0, us, h1, h2, h3⟩ := H
  exact ⟨e.old h0, us, e.rd h0 h1, h2, h3⟩
theorem AtL.ld1 {h : Heap} {b : Pa} {off : Nat} {vs : List V} (H : AtL h b off vs) {i : Nat} (hi : i < vs.length) : ld1B (h.get b) (off + i) = some vs[i] := by
  obtain ⟨_, us, h1, h2, h3⟩ := H
  rw [h1.ld1, List.getElem?_eq_getElem (by omega)]
  congr 1
  have : ((us.drop off).take vs.length)[i]? = vs[i]? := by rw [h3]
  rw [List.getElem?_take_of_lt hi, List.getElem?_drop, List.getElem?_eq_getElem (by omega), List.getElem?_eq_getElem hi] at this
  simpa using this
theorem AtL.ldn {h : Heap} {b : Pa} {off : Nat} {vs : List V} (H : AtL h b off vs) {i n : Nat} (hi : i + n ≤ vs.length) : ldnB n (h.get b) (off + i) = some (.agg ((vs.drop i).take n)) := by
  obtain ⟨_, us, h1, h2, h3⟩ := H
  rw [h1.ldn, if_pos (by omega)]
  congr 2
  have : (((us.drop off).take vs.length).drop i).take n = (vs.drop i).take n := by rw [h3]
  rw [← this, List.drop_take, List.drop_drop, List.take_take]
  congr 1
  omega
def SlV (h : Heap) (size : Nat) (v : V) (n : Nat) (vs : List V) : Prop :=
  vs.length = n * size ∧ match v with
    | .nilslice => n = 0
    | .slice b off len _ => len = n ∧ AtL h b off vs
    | .gslice b off len _ => len = n ∧ AtL h b off vs
    | .tslice _ _ _ _ => n = 0
    | _ => False
theorem SlV.ext {h h' : Heap} (e : Ext h h') {size : Nat} {v : V} {n : Nat} {vs : List V} (H : SlV h size v n vs) : SlV h' size v n vs := by
  refine ⟨H.1, ?_⟩
  have H2 := H.2
  cases v <;> simp only at H2 ⊢ <;> first | exact H2 | exact ⟨H2.1, H2.2.ext e⟩
theorem SlV.len {h : Heap} {size : Nat} {v : V} {n : Nat} {vs : List V} (H : SlV h size v n vs) : lenSl v = some (.int .i64 n) := by
  have H2 := H.2
  cases v <;> simp only at H2 <;> first
    | (rw [← H2.1]; rfl)
    | (subst H2; rfl)
    | (exact H2.elim)
theorem SlV.ia {h : Heap} {size : Nat} {v : V} {n : Nat} {vs : List V} (H : SlV h size v n vs) {k : IntKind} {i : Nat} (hi : i < n) :
    ∃ b off, iaV size v (.int k i) = some (.ptr b (off + i * size)) ∧ AtL h b off vs := by
  have H2 := H.2
  cases v <;> simp only at H2 <;> first
    | omega
    | (exact H2.elim)
    | skip
  · rename_i b off len cap
    obtain ⟨rfl, h1⟩ := H2
    refine ⟨b, off, ?_, h1⟩
    rw [ia_sl, if_pos (by omega)]
    simp
  · rename_i b off len cap
    obtain ⟨rfl, h1⟩ := H2
    refine ⟨b, off, ?_, h1⟩
    rw [ia_g, if_pos (by omega)]
    simp
end
end Go.Proofs.YtigflhomnoledaaGreatDoor.Am
namespace Go.Proofs.YtigflhomnoledaaGreatDoor.Am
variable [Lay]
open Go Go.RowKit
structure Mod (M : Pa → Prop) (h h' : Heap) : Prop where
  next : h.next ≤ h'.next
  get : ∀ b, Old h b → ¬ M b → h'.get b = h.get b
theorem Mod.refl (M : Pa → Prop) (h : Heap) : Mod M h h := ⟨Nat.le_refl _, fun _ _ _ => rfl⟩
theorem Mod.old {M : Pa → Prop} {h h' : Heap} (e : Mod M h h') {b : Pa} (hb : Old h b) : Old h' b := Nat.lt_of_lt_of_le hb e.next
theorem Mod.set {M : Pa → Prop} {h h' : Heap} (e : Mod M h h') {b : Pa} (hb : Old h b → M b) (k : Blk) : Mod M h (h'.set b k) :=
  ⟨e.next, fun b' hb' hm => by
    rw [get_set]
    by_cases q : b = b'
    · subst q
      exact absurd (hb hb') hm
    · rw [if_neg q]
      exact e.get b' hb' hm⟩
theorem Mod.at {M : Pa → Prop} {h h' : Heap} (e : Mod M h h') {b : Pa} {off : Nat} {vs : List V} (H : AtL h b off vs) (hm : ¬ M b) : AtL h' b off vs := by
  obtain ⟨h0, us, h1, h2, h3⟩ := H
  refine ⟨e.old h0, us, ?_, h2, h3⟩
  unfold Rd at h1 ⊢
  rw [e.get b h0 hm]
  exact h1
theorem old_lt {h : Heap} {i : Nat} (hi : i < h.next) : Old h (pa i) := by unfold Old; rw [unPa_pa]; exact hi
def V.blk : V → Pa → Prop
  | .slice b _ _ _, b' => b' = b
  | .gslice b _ _ _, b' => b' = b
  | _, _ => False
theorem SlV.one {h : Heap} {size : Nat} {v : V} {n : Nat} {vs : List V} (H : SlV h size v n vs) : v.one = true ∧ v.cells = [v] ∧ v.good = true := by
  have q := H.2
  cases v <;> simp only at q <;> first | exact ⟨rfl, rfl, rfl⟩ | exact q.elim
theorem SlV.mod {M : Pa → Prop} {h h' : Heap} (e : Mod M h h') {size : Nat} {v : V} {n : Nat} {vs : List V} (H : SlV h size v n vs) (hm : ∀ b, v.blk b → ¬ M b) : SlV h' size v n vs := by
  refine ⟨H.1, ?_⟩
  have H2 := H.2
  cases v <;> simp only at H2 ⊢ <;> first | exact H2 | exact ⟨H2.1, e.at H2.2 (hm _ rfl)⟩
theorem SlV.old {h : Heap} {size : Nat} {v : V} {n : Nat} {vs : List V} (H : SlV h size v n vs) {b : Pa} (hb : v.blk b) : Old h b := by
  have H2 := H.2
  cases v <;> simp only [V.blk] at H2 hb <;> first | (exact hb.elim) | (subst hb; exact H2.2.1)
theorem opt_no (r : RF) : RX.opt r none = none := (rfl)
theorem opt_so (r : RF) (x : RX) : RX.opt r (some x) = some (x.ev r) := (rfl)
theorem bound_none (d y : Nat) : bound none d y = some d := rfl
theorem nil_ptr (b : Pa) (o : Nat) : nilCheckV (.ptr b o) = some (.ptr b o) := rfl
theorem mn_two (k k' : IntKind) (a b : Int) : pickV (fun b a => !Int.leB a b) [.int k a, .int k' b] = some (.int k (if b < a then b else a)) := by
  simp only [pickV, pickFrom, V.onInt, leB_dec]
  by_cases h : b < a
  · rw [if_pos h]
    have : ¬ a ≤ b := by omega
    simp [this]
  · rw [if_neg h]
    have : a ≤ b := by omega
    simp [this]
theorem mx_two (k k' : IntKind) (a b : Int) : pickV (fun b a => !Int.leB b a) [.int k a, .int k' b] = some (.int k (if a < b then b else a)) := by
  simp only [pickV, pickFrom, V.onInt, leB_dec]
  by_cases h : a < b
  · rw [if_pos h]
    have : ¬ b ≤ a := by omega
    simp [this]
  · rw [if_neg h]
    have : b ≤ a := by omega
    simp [this]
end Go.Proofs.YtigflhomnoledaaGreatDoor.Am
namespace Go.Proofs.YtigflhomnoledaaGreatDoor.Am
variable [Lay]
open Go Go.RowKit
set_option linter.defProp false
end Go.Proofs.YtigflhomnoledaaGreatDoor.Am
namespace Go.Proofs.YtigflhomnoledaaGreatDoor.Am
variable [Lay]
open Go Go.RowKit
theorem condK_tt {P : Program} {ks : List KS} {r : RF} {h : Heap} {Q : Ex → RF → Heap → Prop} {a b : RC} : condK P (.bool true) a b ks r h Q = wpK P (.c a :: ks) .normal r h Q := by
  rw [condK_bool]; simp
theorem condK_ff {P : Program} {ks : List KS} {r : RF} {h : Heap} {Q : Ex → RF → Heap → Prop} {a b : RC} : condK P (.bool false) a b ks r h Q = wpK P (.c b :: ks) .normal r h Q := by
  rw [condK_bool]; simp
theorem beqBytes_dec (a b : List UInt8) : beqBytes a b = decide (a = b) := by
  rw [beqBytes_eq, Bool.eq_iff_iff]
  simp
theorem bound_if (k : IntKind) (b : Int) (d y : Nat) : bound (some (.int k b)) d y = if 0 ≤ b ∧ b ≤ (y : Int) then some b.toNat else none := by
  simp only [bound, V.onInt, leB_dec]
  by_cases h1 : 0 ≤ b <;> by_cases h2 : b ≤ (y : Int) <;> simp [h1, h2]
theorem sl_hi (s : List UInt8) (k : IntKind) (b : Int) : sliceStr (.str s) none (some (.int k b)) none = if 0 ≤ b ∧ b ≤ (s.length : Int) then some (.str (s.take b.toNat)) else none := by
  simp only [sliceStr, bound_if]
  by_cases h : 0 ≤ b ∧ b ≤ (s.length : Int)
  · simp only [h, and_self, if_true, bound, List.drop_zero, Nat.sub_zero]
  · simp only [h, if_false]
theorem sl_lo (s : List UInt8) (k : IntKind) (a : Int) : sliceStr (.str s) (some (.int k a)) none none = if 0 ≤ a ∧ a ≤ (s.length : Int) then some (.str (s.drop a.toNat)) else none := by
  simp only [sliceStr, bound_none, bound_if]
  by_cases h : 0 ≤ a ∧ a ≤ (s.length : Int)
  · simp only [h, and_self, if_true]
    rw [List.take_of_length_le (by rw [List.length_drop]; omega)]
  · simp only [h, if_false]
theorem sl_two (s : List UInt8) (k k' : IntKind) (a b : Int) : sliceStr (.str s) (some (.int k a)) (some (.int k' b)) none = if 0 ≤ a ∧ a ≤ b ∧ b ≤ (s.length : Int) then some (.str ((s.drop a.toNat).take (b.toNat - a.toNat))) else none := by
  simp only [sliceStr, bound_if]
  by_cases h : 0 ≤ b ∧ b ≤ (s.length : Int)
  · simp only [h, and_self, if_true]
    by_cases h2 : 0 ≤ a ∧ a ≤ b
    · have : 0 ≤ a ∧ a ≤ ((b.toNat : Nat) : Int) := by omega
      simp only [this, and_self, if_true, h2, h]
    · have h3 : ¬ (0 ≤ a ∧ a ≤ ((b.toNat : Nat) : Int)) := by omega
      have h4 : ¬ (0 ≤ a ∧ a ≤ b ∧ b ≤ (s.length : Int)) := by omega
      have h5 : ¬ (0 ≤ a ∧ a ≤ b ∧ True) := fun q => h2 ⟨q.1, q.2.1⟩
      rw [if_neg h5, if_neg h3]
  · have h4 : ¬ (0 ≤ a ∧ a ≤ b ∧ b ≤ (s.length : Int)) := by omega
    simp only [h, h4, if_false]
theorem sl_all (s : List UInt8) : sliceStr (.str s) none none none = some (.str s) := by
  simp only [sliceStr, bound_none, List.drop_zero, Nat.sub_zero, List.take_length]
section
variable {P : Program}
theorem s_eql (a b : List UInt8) : (BK.str .eql).run P (.str a) (.str b) = some (.bool (decide (a = b))) := by simp only [BK.run, strC, strB, beqBytes_dec]
theorem s_add (a b : List UInt8) : (BK.str .add).run P (.str a) (.str b) = if a.length + b.length ≤ top then some (.str (a ++ b)) else none := by
  simp only [BK.run, strC, strAdd]
  by_cases h : a.length + b.length ≤ top
  · rw [if_pos h, show Nat.ble (a.length + b.length) top = true from by rw [Nat.ble_eq]; exact h]
    rfl
  · rw [if_neg h, show Nat.ble (a.length + b.length) top = false from by rw [← Bool.not_eq_true, Nat.ble_eq]; exact h]
    rfl
theorem s_ix (s : List UInt8) (k : IntKind) (i : Int) : indexStr.run (.str s) (.int k i) = if 0 ≤ i ∧ i < (s.length : Int) then some (.int .u8 (((s[i.toNat]?).getD 0).toNat : Int)) else none := by
  simp only [indexStr, V.onInt, leB_dec]
  by_cases h1 : 0 ≤ i
  · simp only [h1, decide_true, cond_true, true_and]
    by_cases h2 : i < (s.length : Int)
    · rw [if_pos h2, List.getElem?_eq_getElem (by omega)]
      rfl
    · rw [if_neg h2, List.getElem?_eq_none (by omega)]
  · simp only [h1, decide_false, cond_false, false_and, if_false]
theorem s_neq (a b : List UInt8) : (BK.str .neq).run P (.str a) (.str b) = some (.bool (!decide (a = b))) := by simp only [BK.run, strC, strB, beqBytes_dec]
end
end Go.Proofs.YtigflhomnoledaaGreatDoor.Am
namespace Go.Proofs.YtigflhomnoledaaGreatDoor.Am
open Go Go.RowKit
set_option linter.defProp false
def wqA1 :=
  And.intro @k_nil <| And.intro @k_blk <| And.intro @k_seq <| And.intro @k_block <| And.intro @k_reg <| And.intro @k_skip <| And.intro @k_ret <| And.intro @k_exit <| And.intro @k_cret <| And.intro @k_cexit <| And.intro @k_cond <| And.intro @k_loop <| And.intro @k_draw <| And.intro @k_osnil <| And.intro @k_mv <| And.intro @kg_mv <| And.intro @k_pick <| And.intro @kg_pick <| And.intro @k_build <| And.intro @kg_build <| And.intro @k_ld1 <| And.intro @kg_ld1 <| And.intro @k_ldn <| And.intro @kg_ldn <| And.intro @k_nilck <| And.intro @kg_nilck <| And.intro @k_bin <| And.intro @kg_bin <| And.intro @k_un <| And.intro @kg_un <| And.intro @k_fn <| And.intro @kg_fn <| And.intro @k_ifc <| And.intro @kg_ifc <| And.intro @k_slstr <| And.intro @kg_slstr <| And.intro @k_sl <| And.intro @kg_sl <| And.intro @k_fa <| @kg_fa
def wqA2 :=
  And.intro @k_fld1 <| And.intro @kg_fld1 <| And.intro @k_fldn <| And.intro @kg_fldn <| And.intro @k_ia <| And.intro @kg_ia <| And.intro @k_iaa <| And.intro @kg_iaa <| And.intro @k_ixs <| And.intro @kg_ixs <| And.intro @k_ix <| And.intro @kg_ix <| And.intro @k_look <| And.intro @kg_look <| And.intro @k_ext <| And.intro @kg_ext <| And.intro @k_mn <| And.intro @kg_mn <| And.intro @k_mx <| And.intro @kg_mx <| And.intro @k_cvint <| And.intro @kg_cvint <| And.intro @k_lenslice <| And.intro @kg_lenslice <| And.intro @k_lenstr <| And.intro @kg_lenstr <| And.intro @k_lenarr <| And.intro @kg_lenarr <| And.intro @k_new <| And.intro @kg_new <| And.intro @k_box <| And.intro @kg_box <| And.intro @k_bsl <| And.intro @kg_bsl <| And.intro @k_st <| And.intro @kg_st <| And.intro @k_mksl <| And.intro @kg_mksl <| And.intro @k_upd <| @kg_upd
def wqA3 :=
  And.intro @k_mkm <| And.intro @kg_mkm <| And.intro @k_rngs <| And.intro @kg_rngs <| And.intro @k_nxt <| And.intro @kg_nxt <| And.intro @k_app <| And.intro @kg_app <| And.intro @k_copy <| And.intro @kg_copy <| And.intro @k_lenmap <| And.intro @kg_lenmap <| And.intro @k_cvbytes <| And.intro @kg_cvbytes <| And.intro @k_cvstr <| And.intro @kg_cvstr <| And.intro @k_cvoth <| And.intro @kg_cvoth <| And.intro @kg_call <| And.intro @kg_callv <| And.intro @k_call <| And.intro @k_callv <| @k_dnil
def wqB1 :=
  And.intro @sv_some <| And.intro @so_val <| And.intro @condK_tt <| And.intro @condK_ff <| And.intro @callv_func <| And.intro @rngO_str <| And.intro @bslO_some <| And.intro @boxO_true <| And.intro @orH_some <| And.intro @fill_nil <| And.intro @fill_if <| And.intro @buildO_some <| And.intro @evPs_nil <| And.intro @evPs_cons <| And.intro @pickB_bool <| And.intro @fa_ptr <| And.intro @on_tup <| And.intro @on_agg <| And.intro @lens_sl <| And.intro @lens_g <| And.intro @lens_t <| And.intro @lens_nil <| And.intro @lenst_str <| And.intro @ia_sl <| And.intro @ia_g <| And.intro @cvi_int <| And.intro @ev_t <| And.intro @ev_c <| And.intro @trim_get <| And.intro @set_get <| And.intro @set_no <| And.intro @ofL_hd <| And.intro @ofL_tl <| And.intro @opt_true <| And.intro @opt_false <| And.intro @vif_true <| And.intro @vif_false <| And.intro @bif_bool <| And.intro @bif_int <| @bif_optn
def wqB2 :=
  And.intro @bif_or <| And.intro @bif_and <| And.intro @Imp_T <| And.intro @Imp_true <| And.intro @Imp_false <| And.intro @took_bool <| And.intro @took_tuple <| And.intro @took_opt <| And.intro @isGate_bool <| And.intro @isGate_tuple <| And.intro @isGate_opt <| And.intro @k_add <| And.intro @k_sub <| And.intro @k_mul <| And.intro @k_eql <| And.intro @k_neq <| And.intro @k_lss <| And.intro @k_leq <| And.intro @k_gtr <| And.intro @k_geq <| And.intro @k_beql <| And.intro @k_bneq <| And.intro @u_not <| And.intro @u_neg <| And.intro @load1_ptr <| And.intro @loadn_ptr <| And.intro @ld1_ofL <| And.intro @ld1_ro <| And.intro @ldn_ofL <| And.intro @ldn_ro <| And.intro @store_ptr <| And.intro @lay_if <| And.intro @get_new_self <| And.intro @get_new <| And.intro @get_set <| And.intro @pa_eq <| And.intro @next_new <| And.intro @next_set <| And.intro @newCells_if <| @cells_bool
def wqB3 :=
  And.intro @one_bool <| And.intro @good_bool <| And.intro @cells_int <| And.intro @one_int <| And.intro @good_int <| And.intro @cells_str <| And.intro @one_str <| And.intro @good_str <| And.intro @cells_nilptr <| And.intro @one_nilptr <| And.intro @good_nilptr <| And.intro @cells_ptr <| And.intro @one_ptr <| And.intro @good_ptr <| And.intro @cells_slice <| And.intro @one_slice <| And.intro @good_slice <| And.intro @cells_gslice <| And.intro @one_gslice <| And.intro @good_gslice <| And.intro @cells_tslice <| And.intro @one_tslice <| And.intro @good_tslice <| And.intro @cells_nilslice <| And.intro @one_nilslice <| And.intro @good_nilslice <| And.intro @cells_nilmap <| And.intro @one_nilmap <| And.intro @good_nilmap <| And.intro @cells_map <| And.intro @one_map <| And.intro @good_map <| And.intro @cells_func <| And.intro @one_func <| And.intro @good_func <| And.intro @cells_nilfunc <| And.intro @one_nilfunc <| And.intro @good_nilfunc <| And.intro @cells_iface <| @one_iface
def wqB4 :=
  And.intro @good_iface <| And.intro @cells_nilIface <| And.intro @one_nilIface <| And.intro @good_nilIface <| And.intro @cells_agg <| And.intro @good_agg <| And.intro @good_tuple <| And.intro @leave_normal <| And.intro @leave_ret <| And.intro @leave_exit <| And.intro @beq_true <| And.intro @beq_false <| And.intro @Bool.not_true <| And.intro @Bool.not_false <| And.intro @Bool.true_and <| And.intro @Bool.and_true <| And.intro @Bool.false_and <| And.intro @Bool.and_false <| And.intro @Bool.not_not <| And.intro @V.bool.injEq <| And.intro @Nat.zero_add <| And.intro @Nat.add_zero <| And.intro @then_normal <| And.intro @then_ret <| And.intro @then_exit <| And.intro @Bool.true_eq_false <| And.intro @Bool.false_eq_true <| And.intro @toN_int <| And.intro @pushD_none <| And.intro @pushD_some <| And.intro @asks_nil <| And.intro @asks_cons <| And.intro @ask_nil <| And.intro @ask_cons <| And.intro @heapF_o <| And.intro @heapO_some <| And.intro @heapO_none <| And.intro @ask_ld1 <| And.intro @ask_ldn <| @askg_ld1
def wqB5 :=
  And.intro @askg_ldn <| And.intro @nx1 <| And.intro @xn1 <| And.intro @nx2 <| And.intro @xn2 <| And.intro @nx3 <| And.intro @xn3 <| And.intro @nx4 <| And.intro @xn4 <| And.intro @nx5 <| And.intro @xn5 <| And.intro @nx6 <| And.intro @xn6 <| And.intro @nx7 <| And.intro @xn7 <| And.intro @nx8 <| And.intro @xn8 <| And.intro @gateK_tt <| And.intro @gateK_ff <| And.intro @gateK_tf <| And.intro @gateK_ft <| And.intro @gateK_tuple <| And.intro @Bool.or_false <| And.intro @Bool.false_or <| And.intro @Bool.or_true <| And.intro @Bool.true_or <| And.intro @nil_ptr <| And.intro @mn_two <| And.intro @mx_two <| And.intro @opt_no <| And.intro @opt_so <| And.intro @add11 <| And.intro @add21 <| And.intro @add31 <| And.intro @add41 <| And.intro @add51 <| And.intro @add61 <| And.intro @add71 <| And.intro @add81 <| @add91
def wqB6 :=
  And.intro @add101 <| And.intro @add111 <| And.intro @add121 <| And.intro @add131 <| And.intro @add141 <| And.intro @add151 <| And.intro @sl_hi <| And.intro @sl_lo <| And.intro @sl_two <| And.intro @sl_all <| And.intro @s_eql <| And.intro @s_neq <| And.intro @s_add <| @s_ix
end Go.Proofs.YtigflhomnoledaaGreatDoor.Am
namespace Go.Proofs.YtigflhomnoledaaGreatDoor.Am
variable [Lay]
open Go Go.RowKit
end Go.Proofs.YtigflhomnoledaaGreatDoor.Am
namespace Go.Proofs.YtigflhomnoledaaGreatDoor.Am
variable [Lay]
set_option linter.defProp false
open Go Go.RowKit
def wA := And.intro @wqA1 <| And.intro @wqA2 @wqA3
def wB := And.intro @wqB1 <| And.intro @wqB2 <| And.intro @wqB3 <| And.intro @wqB4 <| And.intro @wqB5 @wqB6
def wZ := And.intro @Option.isSome_some.{0} <| And.intro @Option.getD_some.{0} <| And.intro @if_true.{1} <| And.intro @if_false.{1} <| And.intro @true_and <| And.intro @and_true <| And.intro @List.getElem?_cons_zero.{0} <| And.intro @List.getElem?_cons_succ.{0} <| And.intro @List.length_cons.{0} <| And.intro @List.length_nil.{0} <|
  And.intro @List.drop_zero.{0} <| And.intro @List.drop_succ_cons.{0} <| And.intro @List.take_succ_cons.{0} <| And.intro @List.take_zero.{0} <| And.intro @List.cons_append.{0} <| And.intro @List.nil_append.{0} <| And.intro @Option.some.injEq.{0} <| And.intro @exists_eq_left'.{1} <| And.intro @List.cons.injEq.{0} <|
  And.intro @Nat.succ_ne_zero <| And.intro @imp_T <| And.intro @imp_F <| And.intro @List.getElem?_nil.{0} <| And.intro @decide_true <| And.intro @decide_false <| And.intro @eq_self.{1} <| And.intro @not_true_eq_false <| And.intro @not_false_eq_true <| And.intro @ite_true.{1} @ite_false.{1}
def wC := And.intro wB (And.intro wZ (And.intro @repeatV.eq_1 (And.intro @repeatV.eq_2 (And.intro @RX.evs.eq_1 (And.intro @RX.evs.eq_2 (And.intro @spl.eq_1 (And.intro @spl.eq_2 (And.intro @spl.eq_3 (And.intro @over.eq_1 (And.intro @over.eq_2 (And.intro @over.eq_3 (And.intro @ones.eq_1 (@ones.eq_2)))))))))))))
def wD := And.intro wC (And.intro @Ex.ends.eq_1 (And.intro @Ex.ends.eq_2 (And.intro @evR.eq_1 (And.intro @evR.eq_2 (And.intro @evR.eq_3 (And.intro @evR.eq_4 (And.intro @oneOf.eq_1 (And.intro @oneOf.eq_2 top.eq_1))))))))
end Go.Proofs.YtigflhomnoledaaGreatDoor.Am
namespace Go.Proofs.YtigflhomnoledaaGreatDoor.Am
variable [Lay]
open Go Go.RowKit
theorem closed_callsV {P : Program} {f : FuncId} (hy : Nat.beq f yieldId = false) {v : V} (hv : ∀ E x, x = .bool true → Rel E v x) (hfn : ∃ fn, P.funcs[f]? = some fn ∧ fn.body.isSome = true) (H : ∀ w, Lay.ok w → Calls P f #[] w fun e w' => e = .returned (.bool true) ∧ Below w.heap.size w w') (h : Heap) :
    CallsV P f [] h v h := by
  refine ⟨fun e => by subst e; simp at hy, .inl ⟨hfn, fun w0 E w xs hx s => ?_⟩⟩
  simp only [RelL] at hx
  subst hx
  refine (H w (Lay.keep s.laid s.frame)).mono fun e w' q => ?_
  obtain ⟨rfl, hb⟩ := q
  exact ⟨E, _, rfl, fun _ _ q => q, hv E _ rfl, s.below hb⟩
noncomputable def viewE (E : Env) (h : Heap) (p : Pl) : Env := fun b => if b = pa h.next then some p else E b
theorem viewE_self (E : Env) (h : Heap) (p : Pl) : viewE E h p (pa h.next) = some p := if_pos rfl
theorem viewE_le {w0 : Fr} {E : Env} {h : Heap} {w : World} (s : Sim w0 E h w) (p : Pl) : E.le (viewE E h p) := fun b q hq => by
  unfold viewE
  rw [if_neg (fun e => by rw [e, s.fresh _ (Nat.le_refl _)] at hq; cases hq)]
  exact hq
theorem sim_new {W : World} {E : Env} {h : Heap} (s : Sim ⟨W, fun _ => none⟩ E h W) (p : Pl) (k : Blk) (ho : k.own = false) (hk : BlkRel W.heap.size (viewE E h p) W (pa h.next) k) :
    Sim ⟨W, fun _ => none⟩ (viewE E h p) (h.new k) W := by
  refine ⟨fun b _ => ?_, fun _ _ h => (by cases h), fun b b' q q' h1 h2 e1 e2 hq => ?_, fun i hi => ?_, s.frame, s.laid, fun b q n cs st h1 e1 => by
    rw [get_new] at h1
    by_cases c1 : pa h.next = b
    · rw [if_pos c1] at h1; rw [h1] at ho; cases ho
    · rw [if_neg c1] at h1
      unfold viewE at e1
      rw [if_neg (fun e => c1 e.symm)] at e1
      exact s.base _ _ _ _ _ h1 e1⟩
  · rw [get_new]
    by_cases e : pa h.next = b
    · subst e
      rw [if_pos rfl]
      exact hk
    · rw [if_neg e]
      exact (s.blk b rfl).mono (viewE_le s p)
  · rw [get_new] at h1 h2
    by_cases c1 : pa h.next = b
    · rw [if_pos c1, ho] at h1; cases h1
    · by_cases c2 : pa h.next = b'
      · rw [if_pos c2, ho] at h2; cases h2
      · rw [if_neg c1] at h1
        rw [if_neg c2] at h2
        unfold viewE at e1 e2
        rw [if_neg (fun e => c1 e.symm)] at e1
        rw [if_neg (fun e => c2 e.symm)] at e2
        exact s.inj b b' q q' h1 h2 e1 e2 hq
  · rw [next_new] at hi
    unfold viewE
    rw [if_neg (fun e => by have := pa_inj e; omega)]
    exact s.fresh i (by omega)
theorem sim_view {W : World} {E : Env} {h : Heap} (s : Sim ⟨W, fun _ => none⟩ E h W) {k base cap : Nat} {c : Array Value} {el : TypeId} {fz : Nat × Nat} (hk : W.heap[k]? = some (.cells c el fz)) {vs : List V}
    (hc : base + vs.length ≤ c.size) (hr : ∀ i v y, vs[i]? = some v → c[base + i]? = some y → Rel E v y) :
    Sim ⟨W, fun _ => none⟩ (viewE E h ⟨k, base, cap⟩) (h.new (.ro vs)) W := by
  refine sim_new s _ _ rfl ?_
  have hlt : k < W.heap.size := by
    by_cases hlt : k < W.heap.size
    · exact hlt
    · rw [Array.getElem?_eq_none (by omega)] at hk
      cases hk
  refine ⟨trivial, ⟨k, base, cap⟩, c, el, fz, viewE_self _ _ _, hlt, hk, hc, fun i y hi hy => ?_⟩
  have : T.get .bad (pa i) (puts .e 0 vs) = vs[i] := by
    have := get_puts vs 0 i .e
    rw [Nat.zero_add] at this
    rw [this, if_pos hi, List.getElem?_eq_getElem hi]
    rfl
  rw [this]
  exact Rel.mono (viewE_le s _) _ _ (hr i _ y (List.getElem?_eq_getElem hi) hy)
section
variable (P : Program)
def tiles : List Field → Nat → Option Nat
  | [], o => some o
  | f :: fs, o => if f.offset = o then tiles fs (o + P.cellsOf f.type) else none
def tilesB : Bool := (List.range P.types.size).all fun t => match P.underlying t with
  | some (.struct fs) => decide (tiles P fs.toList 0 = some (P.cellsOf t))
  | _ => true
def Shp (h : Heap) : Nat → Nat → TypeId → List V → Prop
  | 0, _, _, _ => False
  | n + 1, m, t, vs => match P.underlying t with
    | some .bool => ∃ b, vs = [.bool b]
    | some (.int k) => ∃ i, vs = [.int k i] ∧ (Lit.int k i).wf = true
    | some .string => ∃ s : List UInt8, vs = [.str s] ∧ s.length + 1 ≤ m
    | some (.slice e) => 1 ≤ m ∧ (vs = [.nilslice] ∨ (∃ b i j k, vs = [.tslice b i j k]) ∨ P.cellsOf e = 0 ∨
        ∃ b len cap, vs = [.slice b 0 len cap] ∧ 0 < len ∧ len ≤ cap ∧ Old h b ∧ ∃ us, Rd h b us ∧ us.length = len * P.cellsOf e ∧ ∃ ms : List Nat, ms.length = len ∧ ms.sum + 1 ≤ m ∧
          ∀ (i k : Nat), ms[i]? = some k → 1 ≤ k ∧ Shp h n k e ((us.drop (i * P.cellsOf e)).take (P.cellsOf e)))
    | some (.struct fs) => vs.length = P.cellsOf t ∧ ∃ ms : List Nat, ms.length = fs.toList.length ∧ ms.sum + 1 ≤ m ∧ ∀ (i : Nat) (f : Field) (k : Nat), fs.toList[i]? = some f → ms[i]? = some k → 1 ≤ k ∧ Shp h n k f.type ((vs.drop f.offset).take (P.cellsOf f.type))
    | some (.pointer e) => 1 ≤ m ∧ (vs = [.nilptr] ∨ P.cellsOf e = 0 ∨ ∃ b, vs = [.ptr b 0] ∧ Old h b ∧ ∃ us, Rd h b us ∧ us.length = P.cellsOf e ∧ ∃ k, k + 1 ≤ m ∧ Shp h n k e us)
    | some (.map _ _) => vs = [.nilmap] ∨ vs = [.bad]
    | some (.interface _) => vs = [.nilIface] ∨ vs = [.bad]
    | _ => True
end
theorem Shp.ext {P : Program} {h h' : Heap} (e : Ext h h') : ∀ (n m : Nat) (t : TypeId) (vs : List V), Shp P h n m t vs → Shp P h' n m t vs
  | 0, _, _, _, H => H
  | n + 1, m, t, vs, H => by
    unfold Shp at H ⊢
    split at H <;> try exact H
    · refine ⟨H.1, ?_⟩
      rcases H.2 with H | H | H | ⟨b, len, cap, h1, h2, h3, h5, us, k1, k2, ms, k3, k4, k5⟩
      · exact .inl H
      · exact .inr (.inl H)
      · exact .inr (.inr (.inl H))
      · exact .inr (.inr (.inr ⟨b, len, cap, h1, h2, h3, e.old h5, us, e.rd h5 k1, k2, ms, k3, k4, fun i k hk => ⟨(k5 i k hk).1, Shp.ext e n _ _ _ (k5 i k hk).2⟩⟩))
    · obtain ⟨h1, ms, h2, h3, h4⟩ := H
      exact ⟨h1, ms, h2, h3, fun i f k hf hk => ⟨(h4 i f k hf hk).1, Shp.ext e n _ _ _ (h4 i f k hf hk).2⟩⟩
    · refine ⟨H.1, ?_⟩
      rcases H.2 with H | H | ⟨b, h1, h5, us, k1, k2, k, k3, k4⟩
      · exact .inl H
      · exact .inr (.inl H)
      · exact .inr (.inr ⟨b, h1, e.old h5, us, e.rd h5 k1, k2, k, k3, Shp.ext e n _ _ _ k4⟩)
mutual
def bulk {H : Type} : DataW H → Nat
  | .lit (.string bytes) => bytes.length + 1
  | .lit _ => 1
  | .nil => 1
  | .ptr d => bulk d + 1
  | .slice elems spare => bulkAll elems + bulkAll spare + 1
  | .agg parts => bulkAll parts + 1
  | .iface _ d => bulk d + 1
  | .map entries => bulkEntries entries + 1
  | .held _ => 1
def bulkAll {H : Type} : List (DataW H) → Nat
  | [] => 0
  | d :: r => bulk d + bulkAll r
def bulkEntries {H : Type} : List (Lit × DataW H) → Nat
  | [] => 0
  | x :: r => bulkEntry x + bulkEntries r
def bulkEntry {H : Type} : Lit × DataW H → Nat
  | (.string bytes, d) => bytes.length + bulk d + 1
  | (_, d) => bulk d + 1
end
theorem bulk_pos {H : Type} (d : DataW H) : 1 ≤ bulk d := by
  cases d with
  | lit l => cases l <;> simp [bulk]
  | _ => simp [bulk]
theorem bulkAll_sum {H : Type} : ∀ l : List (DataW H), bulkAll l = (l.map bulk).sum
  | [] => by simp [bulkAll]
  | d :: r => by simp only [bulkAll, List.map_cons, List.sum_cons, bulkAll_sum r]
theorem cells_get {w : World} {base : Nat} {a : Addr} {n : Nat} {l : List Value} (h : w.cells? base a n = some l) : l.length = n ∧ ∀ i, i < n → w.cell? (a.add i) = l[i]? := by
  unfold World.cells? at h
  split at h
  · exact ⟨by simpa using mapM_some_length h, fun i hi => mapM_some_get h i i (by simp [hi])⟩
  · cases h
theorem relL_mono {E E' : Env} (he : E.le E') {vs : List V} {l : List Value} (H : RelL E vs l) : RelL E' vs l := RelL.mono he vs l H
section
variable {H : Type} {enc : TypeId × Value → H} {P : Program} {W : World} {base : Nat} {sp : Nat → Bool} {held : Bool}
def Lays (P : Program) (W : World) (n m : Nat) (t : TypeId) (cs : List Value) : Prop :=
  ∀ (E : Env) (h : Heap), Sim ⟨W, fun _ => none⟩ E h W → ∃ E' h' vs, E.le E' ∧ Ext h h' ∧ Sim ⟨W, fun _ => none⟩ E' h' W ∧ RelL E' vs cs ∧ vs.length = cs.length ∧ Shp P h' n m t vs
theorem lays_pieces (n size : Nat) (e : TypeId) : ∀ (pieces : List (List Value)) (ms : List Nat), ms.length = pieces.length → (∀ (i : Nat) (l : List Value) (k : Nat), pieces[i]? = some l → ms[i]? = some k → l.length = size ∧ Lays P W n k e l) →
    ∀ (E : Env) (h : Heap), Sim ⟨W, fun _ => none⟩ E h W → ∃ E' h' us, E.le E' ∧ Ext h h' ∧ Sim ⟨W, fun _ => none⟩ E' h' W ∧ RelL E' us pieces.flatten ∧ us.length = pieces.length * size ∧
      ∀ (i k : Nat), ms[i]? = some k → Shp P h' n k e ((us.drop (i * size)).take size)
  | [], [], _, _, E, h, s => ⟨E, h, [], fun _ _ q => q, Ext.refl h, s, rfl, by simp, fun i k hi => by simp at hi⟩
  | [], _ :: _, hl, _, _, _, _ => by simp at hl
  | _ :: _, [], hl, _, _, _, _ => by simp at hl
  | l :: ls, m :: ms, hlm, hp, E, h, s => by
    obtain ⟨hl, H⟩ := hp 0 l m rfl rfl
    obtain ⟨E1, h1, vs, a1, a2, a3, a4, a5, a6⟩ := H E h s
    obtain ⟨E2, h2, us, b1, b2, b3, b4, b5, b6⟩ := lays_pieces n size e ls ms (by simpa using hlm) (fun i l k q1 q2 => hp (i + 1) l k (by simpa using q1) (by simpa using q2)) E1 h1 a3
    refine ⟨E2, h2, vs ++ us, a1.trans b1, a2.trans b2, b3, ?_, ?_, ?_⟩
    · rw [List.flatten_cons]
      exact RelL.append (relL_mono b1 a4) b4
    · rw [List.length_append, b5, a5, hl, List.length_cons, Nat.add_mul]
      omega
    · intro i k hi
      cases i with
      | zero =>
        rw [Nat.zero_mul, List.drop_zero, List.take_left' (by rw [a5, hl])]
        simp only [List.getElem?_cons_zero, Option.some.injEq] at hi
        subst hi
        exact Shp.ext b2 _ _ _ _ a6
      | succ i =>
        rw [Nat.add_mul, Nat.one_mul, Nat.add_comm, ← List.drop_drop, List.drop_left' (by rw [a5, hl])]
        exact b6 i k (by simpa using hi)
theorem lays_fields (n : Nat) : ∀ (fs : List Field) (ms : List Nat) (o o' : Nat) (cs : List Value), tiles P fs o = some o' → cs.length = o' → ms.length = fs.length → (∀ (i : Nat) (f : Field) (k : Nat), fs[i]? = some f → ms[i]? = some k → Lays P W n k f.type ((cs.drop f.offset).take (P.cellsOf f.type))) →
    o ≤ o' ∧ ∀ (E : Env) (h : Heap), Sim ⟨W, fun _ => none⟩ E h W → ∃ E' h' vs, E.le E' ∧ Ext h h' ∧ Sim ⟨W, fun _ => none⟩ E' h' W ∧ RelL E' vs (cs.drop o) ∧ vs.length = o' - o ∧
      ∀ (i : Nat) (f : Field) (k : Nat), fs[i]? = some f → ms[i]? = some k → o ≤ f.offset ∧ Shp P h' n k f.type ((vs.drop (f.offset - o)).take (P.cellsOf f.type))
  | [], _ :: _, _, _, _, _, _, hlm, _ => by simp at hlm
  | _ :: _, [], _, _, _, _, _, hlm, _ => by simp at hlm
  | [], [], o, o', cs, ht, hl, _, _ => by
    simp only [tiles, Option.some.injEq] at ht
    subst ht
    refine ⟨Nat.le_refl _, fun E h s => ⟨E, h, [], fun _ _ q => q, Ext.refl h, s, ?_, by simp, fun i f k hf => by simp at hf⟩⟩
    rw [List.drop_eq_nil_of_le (by omega)]
    rfl
  | f :: fs, m :: ms, o, o', cs, ht, hl, hlm, hp => by
    simp only [tiles] at ht
    by_cases hf : f.offset = o
    · rw [if_pos hf] at ht
      obtain ⟨g1, g2⟩ := lays_fields n fs ms (o + P.cellsOf f.type) o' cs ht hl (by simpa using hlm) (fun i f k q1 q2 => hp (i + 1) f k (by simpa using q1) (by simpa using q2))
      refine ⟨by omega, fun E h s => ?_⟩
      have hpf := hp 0 f m rfl rfl
      obtain ⟨E1, h1, vs, a1, a2, a3, a4, a5, a6⟩ := hpf E h s
      obtain ⟨E2, h2, us, b1, b2, b3, b4, b5, b6⟩ := g2 E1 h1 a3
      have hvl : vs.length = P.cellsOf f.type := by rw [a5, List.length_take, List.length_drop, hf]; omega
      refine ⟨E2, h2, vs ++ us, a1.trans b1, a2.trans b2, b3, ?_, ?_, ?_⟩
      · have e : cs.drop o = (cs.drop f.offset).take (P.cellsOf f.type) ++ cs.drop (o + P.cellsOf f.type) := by
          rw [hf, ← List.drop_drop, List.take_append_drop]
        rw [e]
        exact RelL.append (relL_mono b1 a4) b4
      · rw [List.length_append, hvl, b5]
        omega
      · intro i g k hg hk
        cases i with
        | zero =>
          simp only [List.getElem?_cons_zero, Option.some.injEq] at hg hk
          subst hg hk
          refine ⟨by omega, ?_⟩
          rw [hf, Nat.sub_self, List.drop_zero, List.take_left' hvl]
          exact Shp.ext b2 _ _ _ _ a6
        | succ i =>
          obtain ⟨c1, c2⟩ := b6 i g k (by simpa using hg) (by simpa using hk)
          refine ⟨by omega, ?_⟩
          rw [show g.offset - o = P.cellsOf f.type + (g.offset - (o + P.cellsOf f.type)) from by omega, ← List.drop_drop, List.drop_left' hvl]
          exact c2
    · rw [if_neg hf] at ht
      cases ht
theorem cell_some {w : World} {a : Addr} {y : Value} (h : w.cell? a = some y) : a.spot = none ∧ ∃ c el fz, w.heap[a.block]? = some (.cells c el fz) ∧ c[a.off]? = some y := by
  refine ⟨World.cell?_spot h, ?_⟩
  unfold World.cell? at h
  split at h
  · rename_i c el fz hh
    split at h
    · cases h
    · exact ⟨c, el, fz, hh, h⟩
  · cases h
theorem add_block (a : Addr) (n : Nat) : (a.add n).block = a.block := by unfold Addr.add; split <;> rfl
theorem add_off (a : Addr) (n : Nat) : (a.add n).off = a.off + n := by unfold Addr.add; split <;> simp_all
theorem row_cells {w : World} {a : Addr} {l : List Value} (h0 : 0 < l.length) (h : ∀ i, i < l.length → w.cell? (a.add i) = l[i]?) :
    a.spot = none ∧ ∃ c el fz, w.heap[a.block]? = some (.cells c el fz) ∧ a.off + l.length ≤ c.size ∧ ∀ i, i < l.length → c[a.off + i]? = l[i]? := by
  have hc0 : w.cell? (a.add 0) = some l[0] := by rw [h 0 h0]; exact List.getElem?_eq_getElem h0
  obtain ⟨s1, c, el, fz, s2, s3⟩ := cell_some hc0
  have e0 : a.add 0 = a := by unfold Addr.add; simp
  rw [e0] at s1 s2 s3
  have key : ∀ i, i < l.length → c[a.off + i]? = l[i]? := by
    intro i hi
    have q := h i hi
    rw [List.getElem?_eq_getElem hi] at q ⊢
    obtain ⟨_, c', el', fz', t2, t3⟩ := cell_some q
    rw [add_block, s2] at t2
    rw [add_off] at t3
    simp only [Option.some.injEq, Obj.cells.injEq] at t2
    obtain ⟨rfl, _, _⟩ := t2
    exact t3
  refine ⟨s1, c, el, fz, s2, ?_, key⟩
  have := key (l.length - 1) (by omega)
  rw [List.getElem?_eq_getElem (by omega)] at this
  have hlt := (Array.getElem?_eq_some_iff.1 this).1
  omega
theorem view_row {E : Env} {h : Heap} (s : Sim ⟨W, fun _ => none⟩ E h W) {a : Addr} {cap : Nat} {l : List Value} (h0 : 0 < l.length) (hc : ∀ i, i < l.length → W.cell? (a.add i) = l[i]?) {us : List V} (hr : RelL E us l) :
    ∃ E' h' b, E.le E' ∧ Ext h h' ∧ Sim ⟨W, fun _ => none⟩ E' h' W ∧ Old h' b ∧ a.spot = none ∧ E' b = some ⟨a.block, a.off, cap⟩ ∧ Rd h' b us := by
  obtain ⟨s1, c, el, fz, s2, s3, s4⟩ := row_cells h0 hc
  have hul : us.length = l.length := (RelL.length hr).symm
  refine ⟨viewE E h ⟨a.block, a.off, cap⟩, h.new (.ro us), pa h.next, viewE_le s _, (Ext.refl h).new _, sim_view s s2 (by omega) fun i v y hv hy => ?_, old_self, s1, viewE_self _ _ _, .inl (get_new_self _)⟩
  have hi : i < l.length := by
    have := (List.getElem?_eq_some_iff.1 hv).1
    omega
  rw [s4 i hi] at hy
  obtain ⟨y', e1, e2⟩ := RelL.get hr i v hv
  rw [hy] at e1
  simp only [Option.some.injEq] at e1
  rw [e1]
  exact e2
theorem flatten_get {α : Type} (size : Nat) : ∀ (pieces : List (List α)) (i j : Nat), (∀ l ∈ pieces, l.length = size) → i < pieces.length → j < size → pieces.flatten[i * size + j]? = (pieces[i]?).bind (·[j]?)
  | [], i, j, _, hi, _ => by simp at hi
  | l :: ls, i, j, hp, hi, hj => by
    have hl : l.length = size := hp l (by simp)
    cases i with
    | zero =>
      rw [Nat.zero_mul, Nat.zero_add, List.flatten_cons, List.getElem?_append_left (by omega)]
      simp
    | succ i =>
      rw [List.flatten_cons, List.getElem?_append_right (by rw [hl, Nat.add_mul]; omega)]
      rw [show (i + 1) * size + j - l.length = i * size + j from by rw [hl, Nat.add_mul]; omega]
      rw [flatten_get size ls i j (fun l hl => hp l (by simp [hl])) (by simpa using hi) hj]
      simp
theorem flatten_len {α : Type} (size : Nat) : ∀ (pieces : List (List α)), (∀ l ∈ pieces, l.length = size) → pieces.flatten.length = pieces.length * size
  | [], _ => by simp
  | l :: ls, hp => by
    rw [List.flatten_cons, List.length_append, flatten_len size ls (fun l hl => hp l (by simp [hl])), hp l (by simp), List.length_cons, Nat.add_mul]
    omega
theorem pick_all {α : Type} (R : Nat → α → Prop) : ∀ (len : Nat), (∀ i, i < len → ∃ l, R i l) → ∃ ps : List α, ps.length = len ∧ ∀ i l, ps[i]? = some l → R i l
  | 0, _ => ⟨[], rfl, fun i l q => by simp at q⟩
  | m + 1, h => by
    obtain ⟨ps, q1, q2⟩ := pick_all R m (fun i hi => h i (by omega))
    obtain ⟨l, h1⟩ := h m (by omega)
    refine ⟨ps ++ [l], by simp [q1], fun i l' hl' => ?_⟩
    by_cases hi : i < ps.length
    · rw [List.getElem?_append_left hi] at hl'
      exact q2 i l' hl'
    · rw [List.getElem?_append_right (by omega)] at hl'
      have e0 : i - ps.length = 0 := by
        by_cases q : i - ps.length = 0
        · exact q
        · rw [List.getElem?_eq_none (by simp; omega)] at hl'
          cases hl'
      rw [e0] at hl'
      simp at hl'
      subst hl'
      obtain rfl : i = m := by omega
      exact h1
theorem lays (hT : tilesB P = true) (hL : laidOutB P = true) : ∀ (n : Nat) (t : TypeId) (cs : List Value) (x : DataW H × List MemPlace), t < P.types.size → DataW.trod enc P W base sp held n t cs = some x → Lays P W n (bulk x.1) t cs
  | 0, t, cs, x, _, h => by simp [DataW.trod] at h
  | n + 1, t, cs, x, hlt, h => by
    have bads : ∀ (cs : List Value), (∀ h' vs, vs.length = cs.length → Shp P h' (n + 1) (bulk x.1) t vs) → Lays P W (n + 1) (bulk x.1) t cs := by
      intro cs H E h s
      refine ⟨E, h, cs.map fun _ => .bad, fun _ _ q => q, Ext.refl h, s, ?_, by simp, H _ _ (by simp)⟩
      clear H
      induction cs with
      | nil => rfl
      | cons c cs ih => exact ⟨c, cs, rfl, by simp [Rel], ih⟩
    cases hu : P.underlying t with
    | none =>
      refine bads cs fun h' vs _ => ?_
      simp only [Shp, hu]
    | some u =>
      cases u with
      | bool =>
        obtain ⟨b, rfl, _⟩ := DataW.trod_bool hu h
        intro E h s
        exact ⟨E, h, [.bool b], fun _ _ q => q, Ext.refl h, s, ⟨_, _, rfl, rfl, rfl⟩, rfl, by simp only [Shp, hu]; exact ⟨b, rfl⟩⟩
      | int k =>
        obtain ⟨i, rfl, _, hw⟩ := DataW.trod_int hu h
        intro E h s
        exact ⟨E, h, [.int k i], fun _ _ q => q, Ext.refl h, s, ⟨_, _, rfl, rfl, rfl⟩, rfl, by simp only [Shp, hu]; exact ⟨i, rfl, hw⟩⟩
      | string =>
        obtain ⟨b, rfl, rfl, _⟩ := DataW.trod_string hu h
        intro E h s
        exact ⟨E, h, [.str b.data.toList], fun _ _ q => q, Ext.refl h, s, ⟨_, _, rfl, rfl, rfl⟩, rfl, by simp only [Shp, hu, bulk]; exact ⟨_, rfl, Nat.le_refl _⟩⟩
      | struct fs =>
        obtain ⟨xs, n', hn, rfl, hl, hxl, hf⟩ := DataW.trod_struct hu h
        obtain rfl : n = n' := by omega
        have htile : tiles P fs.toList 0 = some (P.cellsOf t) := by
          unfold tilesB at hT
          rw [List.all_eq_true] at hT
          have := hT t (List.mem_range.2 hlt)
          rw [hu] at this
          exact of_decide_eq_true this
        have hfl : ∀ (i : Nat) (f : Field) (k : Nat), fs.toList[i]? = some f → (xs.map fun x => bulk x.1)[i]? = some k → Lays P W n k f.type ((cs.drop f.offset).take (P.cellsOf f.type)) := by
          intro i f k hi hk
          have hf' : f ∈ fs.toList := List.mem_of_getElem? hi
          have hi' : fs[i]? = some f := by simpa using hi
          have := hf i f hi'
          have hlx : i < xs.length := by
            rw [hxl]
            exact (Array.getElem?_eq_some_iff.1 hi').1
          rw [List.getElem?_eq_getElem hlx] at this
          rw [List.getElem?_map, List.getElem?_eq_getElem hlx, Option.map_some, Option.some.injEq] at hk
          subst hk
          exact lays hT hL n _ _ _ ((kid_struct hL hlt hu).1 f hf') this
        intro E h s
        obtain ⟨_, g⟩ := lays_fields n fs.toList (xs.map fun x => bulk x.1) 0 _ cs htile hl (by simp [hxl]) hfl
        obtain ⟨E', h', vs, a1, a2, a3, a4, a5, a6⟩ := g E h s
        refine ⟨E', h', vs, a1, a2, a3, by simpa using a4, by rw [a5, hl]; omega, ?_⟩
        simp only [Shp, hu]
        refine ⟨by omega, xs.map fun x => bulk x.1, by simp [hxl], ?_, fun i f k hf' hk => ⟨?_, by simpa using (a6 i f k hf' hk).2⟩⟩
        · simp only [bulk, bulkAll_sum, List.map_map]
          exact Nat.le_refl _
        · rw [List.getElem?_map, Option.map_eq_some_iff] at hk
          obtain ⟨y, _, rfl⟩ := hk
          exact bulk_pos _
      | slice e =>
        rcases DataW.trod_slice hu h with ⟨rfl, rfl⟩ | ⟨a, len, cap, elems, rest, n', hn, rfl, rfl, hb, hlc, _, hel, hget, _, _⟩
        · intro E h s
          exact ⟨E, h, [.nilslice], fun _ _ q => q, Ext.refl h, s, ⟨_, _, rfl, rfl, rfl⟩, rfl, by simp only [Shp, hu]; exact ⟨bulk_pos _, .inl trivial⟩⟩
        · obtain rfl : n = n' := by omega
          by_cases hs : P.cellsOf e = 0
          · refine bads _ fun h' vs _ => ?_
            simp only [Shp, hu]
            exact ⟨bulk_pos _, .inr (.inr (.inl hs))⟩
          by_cases hl0 : len = 0
          · subst hl0
            intro E h s
            refine ⟨E, h, [.tslice .z 0 0 0], fun _ _ q => q, Ext.refl h, s, ⟨_, _, rfl, ?_, rfl⟩, rfl, by simp only [Shp, hu]; exact ⟨bulk_pos _, .inr (.inl ⟨_, _, _, _, rfl⟩)⟩⟩
            simp only [Rel]
            exact ⟨_, _, rfl⟩
          · -- its elements
            have hpe : ∀ i, i < len → ∃ l, W.cells? base (a.add (i * P.cellsOf e)) (P.cellsOf e) = some l ∧ ∀ k : Nat, (elems.map fun x => bulk x.1)[i]? = some k → Lays P W n k e l := by
              intro i hi
              have := hget i hi
              rw [List.getElem?_eq_getElem (by omega)] at this
              rw [Option.bind_eq_some_iff] at this
              obtain ⟨l, h1, h2⟩ := this
              refine ⟨l, h1, fun k hk => ?_⟩
              rw [List.getElem?_map, List.getElem?_eq_getElem (by omega), Option.map_some, Option.some.injEq] at hk
              subst hk
              exact lays hT hL n _ _ _ (kid_slice hL hlt hu) h2
            obtain ⟨pieces, hp1, hp2⟩ : ∃ pieces : List (List Value), pieces.length = len ∧ ∀ i (l : List Value), pieces[i]? = some l → W.cells? base (a.add (i * P.cellsOf e)) (P.cellsOf e) = some l ∧ ∀ k : Nat, (elems.map fun x => bulk x.1)[i]? = some k → Lays P W n k e l := by
              exact pick_all (fun i l => W.cells? base (a.add (i * P.cellsOf e)) (P.cellsOf e) = some l ∧ ∀ k : Nat, (elems.map fun x => bulk x.1)[i]? = some k → Lays P W n k e l) len hpe
            have hpl : ∀ (i : Nat) (l : List Value) (k : Nat), pieces[i]? = some l → (elems.map fun x => bulk x.1)[i]? = some k → l.length = P.cellsOf e ∧ Lays P W n k e l := by
              intro i l k hi hk
              obtain ⟨q1, q2⟩ := hp2 i l hi
              exact ⟨(cells_get q1).1, q2 k hk⟩
            have hpl0 : ∀ l ∈ pieces, l.length = P.cellsOf e := by
              intro l hl
              obtain ⟨i, hi⟩ := List.getElem?_of_mem hl
              exact (cells_get (hp2 i l hi).1).1
            intro E h s
            obtain ⟨E1, h1, us, a1, a2, a3, a4, a5, a6⟩ := lays_pieces n (P.cellsOf e) e pieces (elems.map fun x => bulk x.1) (by simp [hel, hp1]) hpl E h s
            have hfl := flatten_len (P.cellsOf e) pieces hpl0
            have hpos : 0 < len * P.cellsOf e := Nat.mul_pos (by omega) (by omega)
            have hcell : ∀ i, i < pieces.flatten.length → W.cell? (a.add i) = pieces.flatten[i]? := by
              intro q hq
              rw [hfl] at hq
              have hmod : q % P.cellsOf e < P.cellsOf e := Nat.mod_lt _ (by omega)
              have hdiv : q / P.cellsOf e < pieces.length := Nat.div_lt_of_lt_mul (by rw [Nat.mul_comm]; exact hq)
              have hq2 : q / P.cellsOf e * P.cellsOf e + q % P.cellsOf e = q := by rw [Nat.mul_comm]; exact Nat.div_add_mod q _
              rw [← hq2, flatten_get (P.cellsOf e) pieces _ _ hpl0 hdiv hmod, List.getElem?_eq_getElem hdiv]
              obtain ⟨q1, _⟩ := hp2 _ _ (List.getElem?_eq_getElem hdiv)
              have := (cells_get q1).2 _ hmod
              rw [Option.bind_some, ← this]
              congr 1
              unfold Addr.add
              by_cases z1 : q / P.cellsOf e * P.cellsOf e = 0
              · rw [z1]; simp
              · by_cases z2 : q % P.cellsOf e = 0
                · rw [z2]; simp
                · have z3 : ¬ (q / P.cellsOf e * P.cellsOf e + q % P.cellsOf e = 0) := by omega
                  rw [if_neg z1, if_neg z2, if_neg z3]
                  simp [Nat.add_assoc]
            obtain ⟨E2, h2, b, b1, b2, b3, b4, b5, b6, b7⟩ := view_row a3 (cap := cap) (by rw [hfl, hp1]; exact hpos) hcell a4
            refine ⟨E2, h2, [.slice b 0 len cap], a1.trans b1, a2.trans b2, b3, ⟨_, _, rfl, ?_, rfl⟩, rfl, ?_⟩
            · simp only [Rel]
              refine ⟨_, b6, hlc, ?_⟩
              obtain ⟨bl, of', st⟩ := a
              simp only at b5
              subst b5
              rfl
            · simp only [Shp, hu]
              refine ⟨bulk_pos _, .inr (.inr (.inr ⟨b, len, cap, rfl, by omega, hlc, b4, us, b7, by rw [a5, hp1], elems.map fun x => bulk x.1, by simp [hel], ?_, fun i k hk => ⟨?_, Shp.ext b2 _ _ _ _ (a6 i k hk)⟩⟩))⟩
              · simp only [bulk, bulkAll_sum, List.map_map]
                exact Nat.add_le_add_right (Nat.le_add_right _ _) 1
              · rw [List.getElem?_map, Option.map_eq_some_iff] at hk
                obtain ⟨y, _, rfl⟩ := hk
                exact bulk_pos _
      | pointer e =>
        rcases DataW.trod_pointer hu h with ⟨rfl, rfl⟩ | ⟨a, cs', y, n', hn, rfl, rfl, hc, hy⟩
        · intro E h s
          exact ⟨E, h, [.nilptr], fun _ _ q => q, Ext.refl h, s, ⟨_, _, rfl, rfl, rfl⟩, rfl, by simp only [Shp, hu]; exact ⟨bulk_pos _, .inl trivial⟩⟩
        · obtain rfl : n = n' := by omega
          by_cases hs : P.cellsOf e = 0
          · refine bads _ fun h' vs _ => ?_
            simp only [Shp, hu]
            exact ⟨bulk_pos _, .inr (.inl hs)⟩
          · intro E h s
            obtain ⟨q1, q2⟩ := cells_get hc
            obtain ⟨E1, h1, us, a1, a2, a3, a4, a5, a6⟩ := lays hT hL n _ _ _ (kid_pointer hL hlt hu) hy E h s
            obtain ⟨E2, h2, b, b1, b2, b3, b4, b5, b6, b7⟩ := view_row a3 (cap := 0) (by omega) (fun i hi => q2 i (by omega)) a4
            refine ⟨E2, h2, [.ptr b 0], a1.trans b1, a2.trans b2, b3, ⟨_, _, rfl, ?_, rfl⟩, rfl, ?_⟩
            · simp only [Rel]
              refine ⟨_, b6, ?_⟩
              obtain ⟨bl, of', st⟩ := a
              simp only at b5
              subst b5
              rfl
            · simp only [Shp, hu]
              exact ⟨bulk_pos _, .inr (.inr ⟨b, rfl, b4, us, b7, by omega, _, Nat.le_refl _, Shp.ext b2 _ _ _ _ a6⟩)⟩
      | map k e =>
        have hcs : cs.length = 1 := by
          unfold DataW.trod at h
          rw [hu] at h
          split at h <;> simp_all
        intro E h s
        refine ⟨E, h, [.bad], fun _ _ q => q, Ext.refl h, s, ?_, by simp [hcs], by simp only [Shp, hu]; exact .inr trivial⟩
        match cs, hcs with
        | [c], _ => exact ⟨c, [], rfl, by simp [Rel], rfl⟩
      | interface ms =>
        have hcs : cs.length = 1 := by
          unfold DataW.trod at h
          rw [hu] at h
          split at h <;> simp_all
        intro E h s
        refine ⟨E, h, [.bad], fun _ _ q => q, Ext.refl h, s, ?_, by simp [hcs], by simp only [Shp, hu]; exact .inr trivial⟩
        match cs, hcs with
        | [c], _ => exact ⟨c, [], rfl, by simp [Rel], rfl⟩
      | _ =>
        refine bads cs fun h' vs _ => ?_
        simp only [Shp, hu]
def ShpV (P : Program) (h : Heap) (n m : Nat) (t : TypeId) (v : V) : Prop :=
  match P.underlying t with
  | some (.struct _) | some (.array _ _) => ∃ vs, v = .agg vs ∧ Shp P h n m t vs
  | _ => Shp P h n m t [v]
theorem ShpV.ext {h h' : Heap} (e : Ext h h') {n m : Nat} {t : TypeId} {v : V} (H : ShpV P h n m t v) : ShpV P h' n m t v := by
  unfold ShpV at H ⊢
  split at H
  · obtain ⟨vs, q1, q2⟩ := H
    exact ⟨vs, q1, Shp.ext e _ _ _ _ q2⟩
  · obtain ⟨vs, q1, q2⟩ := H
    exact ⟨vs, q1, Shp.ext e _ _ _ _ q2⟩
  · exact Shp.ext e _ _ _ _ H
theorem lays_arg (hT : tilesB P = true) (hL : laidOutB P = true) {r : Reach} {b0 : Nat} {t : TypeId} {v : Value} {d : DataW H} {p : List MemPlace} (hlt : t < P.types.size) (hok : Value.okWide P W r b0 t v) (hd : DataW.Trod enc P W base sp held t v d p) {E : Env} {h : Heap} (s : Sim ⟨W, fun _ => none⟩ E h W) :
    ∃ n E' h' x, E.le E' ∧ Ext h h' ∧ Sim ⟨W, fun _ => none⟩ E' h' W ∧ Rel E' x v ∧ ShpV P h' n (bulk d) t x := by
  obtain ⟨fuel, hf⟩ := hd
  obtain ⟨E', h', vs, a1, a2, a3, a4, a5, a6⟩ := lays hT hL _ _ _ _ hlt hf E h s
  have agg : (∃ cs, v = .agg cs) → ∃ x, Rel E' x v ∧ x = .agg vs := by
    rintro ⟨cs, rfl⟩
    exact ⟨.agg vs, by simp only [Rel]; exact ⟨cs, rfl, a4⟩, rfl⟩
  have one : v.cells = #[v] → ∃ x, Rel E' x v ∧ vs = [x] := by
    intro hc
    rw [hc] at a4 a5
    match vs, a4, a5 with
    | [x], ⟨y, ys, e1, e2, e3⟩, _ =>
      simp only [List.cons.injEq] at e1
      exact ⟨x, e1.1 ▸ e2, rfl⟩
  refine ⟨fuel, E', h', ?_⟩
  unfold Value.okWide at hok
  cases hu : P.underlying t with
  | none =>
    rw [hu] at hok
    simp only [Cell.okWide, Cell.ok, hu] at hok
  | some u =>
    rw [hu] at hok
    unfold ShpV
    rw [hu]
    cases u <;> simp only at hok ⊢ <;> first
      | (obtain ⟨cs, hv, _⟩ := hok
         obtain ⟨x, q1, q2⟩ := agg ⟨cs, hv⟩
         exact ⟨x, a1, a2, a3, q1, vs, q2, a6⟩)
      | (have hc : v.cells = #[v] := by
           cases v <;> first
             | rfl
             | (simp only [Cell.okWide, Cell.ok, hu] at hok)
         obtain ⟨x, q1, q2⟩ := one hc
         exact ⟨x, a1, a2, a3, q1, q2 ▸ a6⟩)
def ShpL (P : Program) (h : Heap) : Nat → List TypeId → List V → Prop
  | _, [], [] => True
  | m, t :: ts, v :: vs => ∃ k k', k + k' ≤ m ∧ (∃ n, ShpV P h n k t v) ∧ ShpL P h k' ts vs
  | _, _, _ => False
theorem ShpL.mono {h : Heap} : ∀ {m m' : Nat} {ts : List TypeId} {vs : List V}, m ≤ m' → ShpL P h m ts vs → ShpL P h m' ts vs
  | _, _, [], [], _, H => by unfold ShpL; trivial
  | _, _, [], _ :: _, _, H => H.elim
  | _, _, _ :: _, [], _, H => H.elim
  | _, _, _ :: _, _ :: _, hm, ⟨k, k', hk, H, H'⟩ => ⟨k, k', Nat.le_trans hk hm, H, H'⟩
theorem lays_args (hT : tilesB P = true) (hL : laidOutB P = true) {r : Reach} {b0 : Nat} : ∀ {ts : List TypeId} {vs : List Value} {ds : List (DataW H)} {p : List MemPlace}, (∀ t ∈ ts, t < P.types.size) → (∀ (j : Nat) t v, ts[j]? = some t → vs[j]? = some v → Value.okWide P W r b0 t v) →
    DataW.TrodAll enc P W base sp held ts vs ds p → ∀ {E : Env} {h : Heap}, Sim ⟨W, fun _ => none⟩ E h W → ∃ E' h' xs, E.le E' ∧ Ext h h' ∧ Sim ⟨W, fun _ => none⟩ E' h' W ∧ RelL E' xs vs ∧ ShpL P h' (bulkAll ds) ts xs
  | [], [], ds, p, _, _, _, E, h, s => ⟨E, h, [], fun _ _ q => q, Ext.refl h, s, rfl, by unfold ShpL; trivial⟩
  | [], _ :: _, ds, p, _, _, hd, E, h, s => by cases ds <;> exact hd.elim
  | _ :: _, [], ds, p, _, _, hd, E, h, s => by cases ds <;> exact hd.elim
  | _ :: _, _ :: _, [], p, _, _, hd, E, h, s => hd.elim
  | t :: ts, v :: vs, d :: ds, p, ht, hv, ⟨p1, p2, h1, h2, _⟩, E, h, s => by
    obtain ⟨n, E1, g1, x, a1, a2, a3, a4, a5⟩ := lays_arg hT hL (ht t (by simp)) (hv 0 t v rfl rfl) h1 s
    obtain ⟨E2, g2, xs, b1, b2, b3, b4, b5⟩ := lays_args hT hL (fun t q => ht t (by simp [q])) (fun j t v q1 q2 => hv (j + 1) t v (by simpa using q1) (by simpa using q2)) h2 a3
    exact ⟨E2, g2, x :: xs, a1.trans b1, a2.trans b2, b3, ⟨_, _, rfl, Rel.mono b1 _ _ a4, b4⟩, bulk d, bulkAll ds, by simp only [bulkAll]; exact Nat.le_refl _, ⟨n, a5.ext b2⟩, b5⟩
theorem call_true (hT : tilesB P = true) (hL : laidOutB P = true) {r : Reach} {b0 : Nat} {f : FuncId} {ts : List TypeId} {vs : List Value} {ds : List (DataW H)} {p : List MemPlace} (hts : ∀ t ∈ ts, t < P.types.size) (hv : ∀ (j : Nat) t v, ts[j]? = some t → vs[j]? = some v → Value.okWide P W r b0 t v)
    (hd : DataW.TrodAll enc P W base sp held ts vs ds p) (hW : Lay.ok W) (hN : NamesOk P) (hb : ∃ fn, P.funcs[f]? = some fn ∧ fn.body.isSome = true) (hc : ∀ (h : Heap) (xs : List V), ShpL P h (bulkAll ds) ts xs → Ctr P f xs h fun y _ => y = .bool true) :
    Calls P f vs.toArray W fun e w' => e = .returned (.bool true) ∧ Below W.heap.size W w' := by
  obtain ⟨E, h, xs, _, _, a3, a4, a5⟩ := lays_args hT hL hts hv hd (sim_empty W hW)
  obtain ⟨y, h', hc', rfl⟩ := hc h xs a5
  refine (hc'.calls hN hb _ E W vs a4 a3).mono fun e w' q => ?_
  obtain ⟨E', x, rfl, _, q2, q3⟩ := q
  simp only [Rel] at q2
  subst q2
  exact ⟨rfl, q3.frame⟩
end
end Go.Proofs.YtigflhomnoledaaGreatDoor.Am
namespace Go.Proofs.YtigflhomnoledaaGreatDoor.Am
variable [Lay]
open Go Go.RowKit
theorem collect {α : Type} (enc : α → List V) (size : Nat) (Q : α → Prop) : ∀ (len : Nat) (us : List V), us.length = len * size → (∀ i, i < len → ∃ a, (us.drop (i * size)).take size = enc a ∧ Q a) →
    ∃ aa : List α, aa.length = len ∧ us = aa.flatMap enc ∧ ∀ a ∈ aa, Q a
  | 0, us, hl, _ => ⟨[], rfl, by simpa using hl, fun a h => by simp at h⟩
  | len + 1, us, hl, h => by
    obtain ⟨a, h1, h2⟩ := h 0 (by omega)
    rw [Nat.add_mul, Nat.one_mul] at hl
    obtain ⟨aa, g1, g2, g3⟩ := collect enc size Q len (us.drop size) (by rw [List.length_drop]; omega) (fun i hi => by
      obtain ⟨b, k1, k2⟩ := h (i + 1) (by omega)
      refine ⟨b, ?_, k2⟩
      rw [List.drop_drop, ← k1, Nat.add_mul, Nat.one_mul, Nat.add_comm])
    refine ⟨a :: aa, by simp [g1], ?_, fun b hb => ?_⟩
    · rw [List.flatMap_cons, ← g2, ← h1, Nat.zero_mul, List.drop_zero, List.take_append_drop]
    · rcases List.mem_cons.1 hb with rfl | hb
      · exact h2
      · exact g3 b hb
section
variable {P : Program} {h : Heap} {n m : Nat} {t : TypeId}
theorem Shp.pos {vs : List V} (H : Shp P h n m t vs) : ∃ k, n = k + 1 := by
  cases n with
  | zero => exact H.elim
  | succ m => exact ⟨m, rfl⟩
theorem Shp.bool {vs : List V} (H : Shp P h n m t vs) (hu : P.underlying t = some .bool) : ∃ b, vs = [.bool b] := by
  obtain ⟨m, rfl⟩ := H.pos
  simpa only [Shp, hu] using H
theorem Shp.int {vs : List V} {k : IntKind} (H : Shp P h n m t vs) (hu : P.underlying t = some (.int k)) : ∃ i, vs = [.int k i] ∧ (Lit.int k i).wf = true := by
  obtain ⟨m, rfl⟩ := H.pos
  simpa only [Shp, hu] using H
theorem Shp.struct {vs : List V} {fs : Array Field} (H : Shp P h n m t vs) (hu : P.underlying t = some (.struct fs)) : ∃ n', n = n' + 1 ∧ vs.length = P.cellsOf t ∧ ∃ ms : List Nat, ms.length = fs.toList.length ∧ ms.sum + 1 ≤ m ∧
    ∀ (i : Nat) (f : Field) (k : Nat), fs.toList[i]? = some f → ms[i]? = some k → 1 ≤ k ∧ Shp P h n' k f.type ((vs.drop f.offset).take (P.cellsOf f.type)) := by
  obtain ⟨n', rfl⟩ := H.pos
  refine ⟨n', rfl, ?_⟩
  simpa only [Shp, hu] using H
def roomV (v : V) : Prop := ∀ b off l c, v = .slice b off l c → l ≤ c
def Sld (h : Heap) (size : Nat) (v : V) (len m : Nat) (Q : Nat → List V → Prop) : Prop :=
  v.one = true ∧ v.cells = [v] ∧ v.good = true ∧ lenSl v = some (.int .i64 len) ∧ roomV v ∧ ∃ (us : List V) (ms : List Nat), SlV h size v len us ∧ ms.length = len ∧ ms.sum + 1 ≤ m ∧ ∀ (i k : Nat), ms[i]? = some k → 1 ≤ k ∧ Q k ((us.drop (i * size)).take size)
theorem Shp.slice {vs : List V} {e : TypeId} (H : Shp P h n m t vs) (hu : P.underlying t = some (.slice e)) (hs : P.cellsOf e ≠ 0) : ∃ n' v len, n = n' + 1 ∧ vs = [v] ∧ Sld h (P.cellsOf e) v len m (fun k => Shp P h n' k e) := by
  obtain ⟨n', rfl⟩ := H.pos
  simp only [Shp, hu] at H
  obtain ⟨h0, H⟩ := H
  rcases H with rfl | ⟨b, i, j, k, rfl⟩ | q | ⟨b, len, cap, rfl, h1, h2, h4, us, k1, k2, ms, k3, k4, k5⟩
  · exact ⟨n', _, 0, rfl, rfl, rfl, rfl, rfl, rfl, (fun _ _ _ _ e => by cases e), [], [], ⟨by simp, rfl⟩, rfl, by simpa using h0, fun i k hi => by simp at hi⟩
  · exact ⟨n', _, 0, rfl, rfl, rfl, rfl, rfl, rfl, (fun _ _ _ _ e => by cases e), [], [], ⟨by simp, rfl⟩, rfl, by simpa using h0, fun i k hi => by simp at hi⟩
  · exact absurd q hs
  · exact ⟨n', _, len, rfl, rfl, rfl, rfl, rfl, rfl, (fun _ _ _ _ e => by cases e; exact h2), us, ms, ⟨k2, rfl, h4, us, k1, by omega, by simp⟩, k3, k4, k5⟩
end
end Go.Proofs.YtigflhomnoledaaGreatDoor.Am
namespace Go.Proofs.YtigflhomnoledaaGreatDoor.Am
variable [Lay]
open Go Go.RowKit Go.ChangeShapes Go.WideShapes
section
variable {H : Type} {enc : TypeId × Value → H} {P : Program}
theorem below_all (hL : laidOutB P = true) {W W' : World} (hb : Below W.heap.size W W') : ∀ {ts : List TypeId} {vs : List Value} {ds : List (DataW H)} {ps : List MemPlace}, (ts.all fun t => P.readableRec t && decide (t < P.types.size)) = true →
    DataW.TrodAll enc P W 0 (fun _ => true) true ts vs ds ps → DataW.TrodAll enc P W' 0 (fun b => decide (b < W.heap.size)) true ts vs ds ps
  | [], [], [], _, _, h => h
  | [], _ :: _, _, _, _, h => by rename_i ds _; cases ds <;> exact h.elim
  | [], [], _ :: _, _, _, h => h.elim
  | _ :: _, [], _, _, _, h => by rename_i ds _; cases ds <;> exact h.elim
  | _ :: _, _ :: _, [], _, _, h => h.elim
  | t :: ts, v :: vs, d :: ds, ps, hr, h => by
    have hlt := h.lt
    obtain ⟨p, q, h1, h2, rfl⟩ := h
    simp only [List.all_cons, Bool.and_eq_true, decide_eq_true_eq] at hr
    exact ⟨p, q, Below.trod hL hr.1.1 hr.1.2 h1 hb (fun x hx => hlt x (by simp [hx])), below_all hL hb hr.2 h2, rfl⟩
theorem trodAll_len {W : World} {base : Nat} {sp : Nat → Bool} {held : Bool} : ∀ {ts : List TypeId} {vs : List Value} {ds : List (DataW H)} {ps : List MemPlace}, DataW.TrodAll enc P W base sp held ts vs ds ps → ds.length = ts.length
  | [], [], [], _, _ => rfl
  | [], _ :: _, ds, _, h => by cases ds <;> exact h.elim
  | [], [], _ :: _, _, h => h.elim
  | _ :: _, [], ds, _, h => by cases ds <;> exact h.elim
  | _ :: _, _ :: _, [], _, h => h.elim
  | t :: ts, v :: vs, d :: ds, ps, h => by
    obtain ⟨p, q, h1, h2, rfl⟩ := h
    simp [trodAll_len h2]
theorem law_true (hT : tilesB P = true) (hL : laidOutB P = true) {f : FuncId} {fn : Func} {s : ChangeSpec} {tb : TypeId} (hts : (fn.params.toList.all fun t => P.readableRec t && decide (t < P.types.size)) = true) (hvars : s.vars = []) (hrt : fn.resultTypes = #[tb]) (hub : P.underlying tb = some .bool)
    (hspec : ∀ ds : List (DataW H), ds.length = fn.params.size → s.fn H (ds ++ []) = { results := [.lit (.bool true)], args := ds })
    {B : Nat} (hc : ∀ (h : Heap) (xs : List V), ShpL P h B fn.params.toList xs → Ctr P f xs h fun y _ => y = .bool true)
    {W : World} {base : Nat} {args : Array Value} {ds gs : List (DataW H)} {before : List MemPlace} (hk : bulkAll (ds ++ gs) ≤ B) (hlay : Lay.ok W) (hN : NamesOk P) (hb : ∃ fn, P.funcs[f]? = some fn ∧ fn.body.isSome = true)
    (hval : ∀ (j : Nat) t v, fn.params[j]? = some t → args[j]? = some v → Value.okWide P W .any base t v) (hW : DataW.Whole enc P fn.params.toList s.vars false W args.toList ds gs before) :
    Calls P f args W fun e W' => ∃ v, e = .returned v ∧ s.post enc P fn false true false false W args v W' := by
  have hW' := hW
  obtain ⟨p, q, hA, hV, rfl, hfz, hnd⟩ := hW
  rw [hvars] at hV
  obtain ⟨rfl, rfl⟩ := trodVars_none hV
  have hlen : ds.length = fn.params.size := by rw [trodAll_len hA]; simp
  have hw := call_true hT hL (b0 := base) (r := .any) (fun t ht => by
    have := List.all_eq_true.1 hts t ht
    simp only [Bool.and_eq_true, decide_eq_true_eq] at this
    exact this.2) (fun j t v h1 h2 => hval j t v (by simpa using h1) (by simpa using h2)) hA hlay hN hb (fun h xs q => hc h xs (q.mono (by simpa using hk)))
  simp only [Array.toArray_toList] at hw
  refine hw.mono fun e W' ⟨he, bel⟩ => ?_
  subst he
  refine ⟨_, rfl, ds, [], p ++ [], [], p, [], hW', ?_, ?_, ?_, bel.frame _, fun h => by cases h⟩
  · rw [hspec ds hlen, hrt]
    exact trodAll_mk1 (shut_bool hub _)
  · rw [hspec ds hlen]
    exact below_all hL bel hts hA
  · rw [hspec ds hlen, hvars]
    rfl
end
end Go.Proofs.YtigflhomnoledaaGreatDoor.Am
namespace Go.Proofs.YtigflhomnoledaaGreatDoor.Am
variable [Lay]
open Go Go.RowKit
theorem shp_none {P : Program} {h : Heap} {B : Nat} {xs : List V} (hs : ShpL P h B [] xs) : xs = [] := by
  match xs, hs with
  | [], _ => rfl
theorem shp_cons {P : Program} {h : Heap} {B : Nat} {t : TypeId} {ts : List TypeId} {xs : List V} (hs : ShpL P h B (t :: ts) xs) : ∃ a aa k k' n, xs = a :: aa ∧ k + k' ≤ B ∧ ShpV P h n k t a ∧ ShpL P h k' ts aa := by
  match xs, hs with
  | a :: aa, ⟨k, k', hk, ⟨n, h0⟩, h1⟩ => exact ⟨a, aa, k, k', n, rfl, hk, h0, h1⟩
section
variable {P : Program} {h : Heap} {n m : Nat} {t : TypeId} {v : V}
theorem shpv_struct {fs : Array Field} (hs : ShpV P h n m t v) (hu : P.underlying t = some (.struct fs)) : ∃ vs, v = .agg vs ∧ Shp P h n m t vs := by
  unfold ShpV at hs
  rw [hu] at hs
  exact hs
theorem shpv_slice {e : TypeId} (hs : ShpV P h n m t v) (hu : P.underlying t = some (.slice e)) {c : Nat} (hc : P.cellsOf e = c) (hc0 : c ≠ 0) : ∃ n' len, Sld h c v len m (fun k => Shp P h n' k e) := by
  unfold ShpV at hs
  rw [hu] at hs
  subst hc
  obtain ⟨n', w, len, _, e1, g⟩ := Shp.slice hs hu hc0
  simp only [List.cons.injEq, and_true] at e1
  subst e1
  exact ⟨n', len, g⟩
end
end Go.Proofs.YtigflhomnoledaaGreatDoor.Am
namespace Go.Proofs.YtigflhomnoledaaGreatDoor.Am
variable [Lay]
open Go Go.RowKit
inductive D where
  | i (k : IntKind) (n : Int)
  | b (x : Bool)
  | s (x : List UInt8)
  | l (size : Nat) (es : List (List D))
inductive CsIn (F : Pa → Prop) (h : Heap) : List D → List V → Prop
  | nil : CsIn F h [] []
  | i {k : IntKind} {n : Int} {ds : List D} {vs : List V} (t : CsIn F h ds vs) : CsIn F h (.i k n :: ds) (.int k n :: vs)
  | b {x : Bool} {ds : List D} {vs : List V} (t : CsIn F h ds vs) : CsIn F h (.b x :: ds) (.bool x :: vs)
  | s {x : List UInt8} {ds : List D} {vs : List V} (hb : x.length ≤ top) (t : CsIn F h ds vs) : CsIn F h (.s x :: ds) (.str x :: vs)
  | l {size : Nat} {es : List (List D)} {v : V} {us : List (List V)} {ds : List D} {vs : List V} (hr : roomV v) (hb : es.length ≤ top) (hs : SlV h size v es.length us.flatten) (hu : us.length = es.length) (hz : ∀ u ∈ us, u.length = size)
      (kids : ∀ (i : Nat) (e : List D) (u : List V), es[i]? = some e → us[i]? = some u → CsIn F h e u) (hf : ∀ b, v.blk b → F b) (t : CsIn F h ds vs) : CsIn F h (.l size es :: ds) (v :: vs)
structure SlD (F : Pa → Prop) (h : Heap) (size : Nat) (es : List (List D)) (v : V) : Prop where
  room : roomV v
  le : es.length ≤ top
  ex : ∃ us : List (List V), SlV h size v es.length us.flatten ∧ us.length = es.length ∧ (∀ u ∈ us, u.length = size) ∧ ∀ (i : Nat) (e : List D) (u : List V), es[i]? = some e → us[i]? = some u → CsIn F h e u
  foot : ∀ b, v.blk b → F b
section
variable {F : Pa → Prop} {h h' : Heap} {ds : List D} {vs : List V}
theorem CsIn.mod {F' M : Pa → Prop} (m : Mod M h h') (hM : ∀ b, F b → Old h b → ¬ M b ∧ F' b) (H : CsIn F h ds vs) : CsIn F' h' ds vs := by
  induction H with
  | nil => exact .nil
  | i t ih => exact .i ih
  | b t ih => exact .b ih
  | s hb t ih => exact .s hb ih
  | l hr hb hs hu hz kids hf t ihk iht => exact .l hr hb (hs.mod m fun b q => (hM b (hf b q) (hs.old q)).1) hu hz ihk (fun b q => (hM b (hf b q) (hs.old q)).2) iht
theorem CsIn.ext (H : CsIn F h ds vs) (e : Ext h h') : CsIn F h' ds vs := by
  induction H with
  | nil => exact .nil
  | i t ih => exact .i ih
  | b t ih => exact .b ih
  | s hb t ih => exact .s hb ih
  | l hr hb hs hu hz kids hf t ihk iht => exact .l hr hb (hs.ext e) hu hz ihk hf iht
theorem CsIn.weak {F' : Pa → Prop} (H : CsIn F h ds vs) (w : ∀ b, F b → F' b) : CsIn F' h ds vs := by
  induction H with
  | nil => exact .nil
  | i t ih => exact .i ih
  | b t ih => exact .b ih
  | s hb t ih => exact .s hb ih
  | l hr hb hs hu hz kids hf t ihk iht => exact .l hr hb hs hu hz ihk (fun b q => w b (hf b q)) iht
theorem CsIn.old (H : CsIn F h ds vs) : CsIn (fun b => F b ∧ Old h b) h ds vs := by
  induction H with
  | nil => exact .nil
  | i t ih => exact .i ih
  | b t ih => exact .b ih
  | s hb t ih => exact .s hb ih
  | l hr hb hs hu hz kids hf t ihk iht => exact .l hr hb hs hu hz ihk (fun b q => ⟨hf b q, hs.old q⟩) iht
theorem CsIn.int {k : IntKind} {n : Int} (H : CsIn F h (.i k n :: ds) vs) : ∃ us, vs = .int k n :: us ∧ CsIn F h ds us := by
  cases H with
  | i t => exact ⟨_, rfl, t⟩
theorem CsIn.bool {x : Bool} (H : CsIn F h (.b x :: ds) vs) : ∃ us, vs = .bool x :: us ∧ CsIn F h ds us := by
  cases H with
  | b t => exact ⟨_, rfl, t⟩
theorem CsIn.sl {size : Nat} {es : List (List D)} (H : CsIn F h (.l size es :: ds) vs) : ∃ v us, vs = v :: us ∧ SlD F h size es v ∧ CsIn F h ds us := by
  cases H with
  | l hr hb hs hu hz kids hf t => exact ⟨_, _, rfl, ⟨hr, hb, ⟨_, hs, hu, hz, kids⟩, hf⟩, t⟩
theorem CsIn.no (H : CsIn F h [] vs) : vs = [] := by cases H; rfl
end
theorem flatN {size : Nat} : ∀ (us : List (List V)) (i : Nat) (u : List V), (∀ u ∈ us, u.length = size) → us[i]? = some u → (us.flatten.drop (i * size)).take size = u
  | [], i, u, _, h => by simp at h
  | w :: us, 0, u, hl, h => by
    simp only [List.getElem?_cons_zero, Option.some.injEq] at h
    subst h
    rw [Nat.zero_mul, List.drop_zero, List.flatten_cons, List.take_left' (hl _ (by simp))]
  | w :: us, i + 1, u, hl, h => by
    rw [show (i + 1) * size = size + i * size from by rw [Nat.succ_mul, Nat.add_comm], ← List.drop_drop, List.flatten_cons, List.drop_left' (hl _ (by simp))]
    exact flatN us i u (fun u hu => hl u (by simp [hu])) (by simpa using h)
theorem flatN_len {size : Nat} : ∀ (us : List (List V)), (∀ u ∈ us, u.length = size) → us.flatten.length = us.length * size
  | [], _ => by simp
  | w :: us, hl => by rw [List.flatten_cons, List.length_append, hl w (by simp), flatN_len us (fun u hu => hl u (by simp [hu])), List.length_cons, Nat.succ_mul, Nat.add_comm]
section
variable {F : Pa → Prop} {h h' : Heap} {size : Nat} {es : List (List D)} {v : V}
theorem SlD.cons {ds : List D} {vs : List V} (H : SlD F h size es v) (t : CsIn F h ds vs) : CsIn F h (.l size es :: ds) (v :: vs) := by
  obtain ⟨us, a, b, c, d⟩ := H.ex
  exact .l H.room H.le a b c d H.foot t
theorem SlD.ext (H : SlD F h size es v) (e : Ext h h') : SlD F h' size es v := by
  obtain ⟨us, a, b, c, d⟩ := H.ex
  exact ⟨H.room, H.le, ⟨us, a.ext e, b, c, fun i x u q1 q2 => (d i x u q1 q2).ext e⟩, H.foot⟩
theorem SlD.mod {F' M : Pa → Prop} (m : Mod M h h') (hM : ∀ b, F b → Old h b → ¬ M b ∧ F' b) (H : SlD F h size es v) : SlD F' h' size es v := by
  obtain ⟨us, a, b, c, d⟩ := H.ex
  exact ⟨H.room, H.le, ⟨us, a.mod m fun x q => (hM x (H.foot x q) (a.old q)).1, b, c, fun i x u q1 q2 => (d i x u q1 q2).mod m hM⟩, fun x q => (hM x (H.foot x q) (a.old q)).2⟩
theorem SlD.weak {F' : Pa → Prop} (H : SlD F h size es v) (w : ∀ b, F b → F' b) : SlD F' h size es v := by
  obtain ⟨us, a, b, c, d⟩ := H.ex
  exact ⟨H.room, H.le, ⟨us, a, b, c, fun i x u q1 q2 => (d i x u q1 q2).weak w⟩, fun b q => w b (H.foot b q)⟩
theorem SlD.len (H : SlD F h size es v) : lenSl v = some (.int .i64 es.length) := by
  obtain ⟨us, a, _⟩ := H.ex
  exact a.len
theorem SlD.one (H : SlD F h size es v) : v.one = true ∧ v.cells = [v] ∧ v.good = true := by
  obtain ⟨us, a, _⟩ := H.ex
  exact a.one
theorem SlD.nil (F : Pa → Prop) (h : Heap) (size : Nat) : SlD F h size [] .nilslice := ⟨fun b o l c e => (by cases e), Nat.zero_le _, ⟨[], ⟨by simp, rfl⟩, rfl, fun u hu => (by cases hu), fun i e u q => (by simp at q)⟩, fun b q => q.elim⟩
theorem SlD.at (H : SlD F h size es v) {k : IntKind} {i : Nat} (hi : i < es.length) :
    ∃ b off u, iaV size v (.int k i) = some (.ptr b (off + i * size)) ∧ CsIn F h es[i] u ∧ u.length = size ∧ (∀ h', Ext h h' → ldnB size (h'.get b) (off + i * size) = some (.agg u)) ∧ ∀ h', Ext h h' → ∀ j, j < size → ld1B (h'.get b) (off + i * size + j) = u[j]? := by
  obtain ⟨us, h1, h2, hl, h3⟩ := H.ex
  have hiu : i < us.length := by omega
  have hu := List.getElem?_eq_getElem hiu
  obtain ⟨b, off, e1, e2⟩ := h1.ia (k := k) hi
  have hf := flatN us i _ hl hu
  have hfl := flatN_len us hl
  have hle : i * size + size ≤ us.length * size := by
    have := Nat.mul_le_mul_right size (show i + 1 ≤ us.length by omega)
    rw [Nat.succ_mul] at this
    exact this
  have hul : us[i].length = size := hl _ (List.getElem_mem hiu)
  refine ⟨b, off, us[i], e1, h3 i _ _ (List.getElem?_eq_getElem hi) hu, hul, fun h' e => ?_, fun h' e j hj => ?_⟩
  · rw [(e2.ext e).ldn (i := i * size) (n := size) (by omega), hf]
  · rw [Nat.add_assoc, (e2.ext e).ld1 (i := i * size + j) (by omega)]
    have : ((us.flatten.drop (i * size)).take size)[j]? = us[i][j]? := by rw [hf]
    rw [List.getElem?_take_of_lt hj, List.getElem?_drop] at this
    rw [← this, List.getElem?_eq_getElem (by omega)]
end
end Go.Proofs.YtigflhomnoledaaGreatDoor.Am
namespace Go.Proofs.YtigflhomnoledaaGreatDoor.Am
variable [Lay]
open Go Go.RowKit
def Any (_ : Pa) : Prop := True
theorem sum_lenD : ∀ {ms : List Nat}, (∀ (i k : Nat), ms[i]? = some k → 1 ≤ k) → ms.length ≤ ms.sum
  | [], _ => Nat.le_refl _
  | m :: ms, h => by
    have h0 := h 0 m rfl
    have := sum_lenD (ms := ms) fun i k q => h (i + 1) k (by simpa using q)
    simp only [List.length_cons, List.sum_cons]
    omega
theorem sum_atD : ∀ {ms : List Nat} {i k : Nat}, ms[i]? = some k → k ≤ ms.sum
  | [], _, _, h => by simp at h
  | m :: ms, 0, k, h => by simp only [List.getElem?_cons_zero, Option.some.injEq] at h; subst h; simp only [List.sum_cons]; omega
  | m :: ms, i + 1, k, h => by
    have := sum_atD (ms := ms) (i := i) (k := k) (by simpa using h)
    simp only [List.sum_cons]; omega
theorem open_list {α : Type} (enc : α → List D) {h : Heap} {size len m : Nat} {v : V} {Q : Nat → List V → Prop} (H : Sld h size v len m Q) (hm : m ≤ 1048576)
    (hq : ∀ k vs, k < m → Q k vs → ∃ x, CsIn Any h (enc x) vs ∧ vs.length = size) : ∃ xs : List α, xs.length = len ∧ xs.length + 1 ≤ m ∧ SlD Any h size (xs.map enc) v := by
  obtain ⟨_, _, _, _, hr, us, ks, k1, k2, k3, k4⟩ := H
  have hsum := sum_lenD fun i k q => (k4 i k q).1
  obtain ⟨ps, g1, g2, g3⟩ := collect (α := α × List V) Prod.snd size (fun p => CsIn Any h (enc p.1) p.2 ∧ p.2.length = size) len us k1.1 (fun i hi => by
    obtain ⟨k, hk⟩ : ∃ k, ks[i]? = some k := ⟨_, List.getElem?_eq_getElem (by omega)⟩
    have := sum_atD hk
    obtain ⟨x, hx, hl⟩ := hq k _ (by omega) (k4 i k hk).2
    exact ⟨(x, _), rfl, hx, hl⟩)
  refine ⟨ps.map Prod.fst, by rw [List.length_map]; exact g1, by rw [List.length_map]; omega, hr, by rw [List.length_map, List.length_map]; unfold top; omega, ⟨ps.map Prod.snd, ?_, by simp, ?_, ?_⟩, fun _ _ => trivial⟩
  · rw [List.length_map, List.length_map, g1, ← List.flatMap_def, ← g2]
    exact k1
  · intro u hu
    obtain ⟨p, hp, rfl⟩ := List.mem_map.1 hu
    exact (g3 p hp).2
  · intro i c u q1 q2
    rw [List.getElem?_map] at q1 q2
    rw [List.getElem?_map] at q1
    cases hp : ps[i]? with
    | none => rw [hp] at q1; cases q1
    | some p =>
      rw [hp] at q1 q2
      simp only [Option.map_some, Option.some.injEq] at q1 q2
      subst q1 q2
      exact (g3 p (List.mem_of_getElem? hp)).1
structure Has (h : Heap) (n : Nat) (l : List V) : Prop where
  lt : n < h.next
  g : h.get (pa n) = .ofL l 0 false
theorem Has.ext {h h' : Heap} {n : Nat} {l : List V} (B : Has h n l) (e : Ext h h') : Has h' n l := ⟨Nat.lt_of_lt_of_le B.lt e.next, (e.get _ (old_lt B.lt)).trans B.g⟩
theorem box_new (h : Heap) (l : List V) : ∃ H, h.new (.ofL l 0 false) = H ∧ Ext h H ∧ Has H h.next l := ⟨_, rfl, (Ext.refl h).new _, by rw [next_new]; omega, get_new_self _⟩
theorem box_st (h : Heap) (z l : List V) : ∃ H, (h.new (.ofL z 0 false)).set (pa h.next) (.ofL l 0 false) = H ∧ Ext h H ∧ Has H h.next l :=
  ⟨_, rfl, ((Ext.refl h).new _).set (Nat.le_refl _) _, by rw [next_set, next_new]; omega, by rw [get_set, if_pos rfl]⟩
theorem Has.set {h : Heap} {n m : Nat} {l : List V} (B : Has h n l) (hm : n ≠ m) (k : Blk) : Has (h.set (pa m) k) n l := ⟨by rw [next_set]; exact B.lt, by rw [get_set, if_neg (by rw [pa_eq]; exact fun q => hm q.symm)]; exact B.g⟩
theorem Has.put {h : Heap} {n : Nat} {l : List V} (B : Has h n l) (l' : List V) : Has (h.set (pa n) (.ofL l' 0 false)) n l' := ⟨by rw [next_set]; exact B.lt, by rw [get_set, if_pos rfl]⟩
theorem CsIn.set {F : Pa → Prop} {h : Heap} {ds : List D} {vs : List V} (H : CsIn F h ds vs) {b : Pa} (hb : ¬ F b) (k : Blk) : CsIn F (h.set b k) ds vs :=
  H.mod ((Mod.refl (fun x => x = b) h).set (fun _ => rfl) k) fun x q _ => ⟨fun e => hb (e ▸ q), q⟩
theorem SlD.set {F : Pa → Prop} {h : Heap} {size : Nat} {es : List (List D)} {v : V} (H : SlD F h size es v) {b : Pa} (hb : ¬ F b) (k : Blk) : SlD F (h.set b k) size es v :=
  H.mod ((Mod.refl (fun x => x = b) h).set (fun _ => rfl) k) fun x q _ => ⟨fun e => hb (e ▸ q), q⟩
theorem CsIn.olds {F : Pa → Prop} {h : Heap} {ds : List D} {vs : List V} (H : CsIn F h ds vs) : CsIn (Old h) h ds vs := H.old.weak fun _ q => q.2
theorem SlD.olds {F : Pa → Prop} {h : Heap} {size : Nat} {es : List (List D)} {v : V} (H : SlD F h size es v) : SlD (Old h) h size es v := by
  obtain ⟨us, a, b, c, d⟩ := H.ex
  exact ⟨H.room, H.le, ⟨us, a, b, c, fun i x u q1 q2 => (d i x u q1 q2).olds⟩, fun b q => a.old q⟩
theorem not_old {h : Heap} {n : Nat} (hn : h.next ≤ n) : ¬ Old h (pa n) := fun q => by unfold Old at q; rw [unPa_pa] at q; omega
theorem w_inc {i n : Nat} (h : i < n) (hn : n ≤ 4611686018427387904) : IntKind.i64.wrap ((i : Int) + 1) = ((i + 1 : Nat) : Int) := by rw [wrap_i64 (by omega) (by omega)]; rfl
def encI (i : Int) : List D := [.i .i64 i]
theorem SlD.int_at {F : Pa → Prop} {h : Heap} {l : List Int} {v : V} (H : SlD F h 1 (l.map encI) v) {k : IntKind} {i : Nat} (hi : i < l.length) :
    ∃ b off, iaV 1 v (.int k i) = some (.ptr b (off + i * 1)) ∧ ∀ h', Ext h h' → ld1B (h'.get b) (off + i * 1) = some (.int .i64 l[i]) := by
  obtain ⟨b, off, u, e1, e2, e3, _, e4⟩ := H.at (k := k) (i := i) (by rw [List.length_map]; exact hi)
  rw [List.getElem_map, encI] at e2
  obtain ⟨us, rfl, e5⟩ := CsIn.int e2
  obtain rfl := e5.no
  exact ⟨b, off, e1, fun h' e => by simpa using e4 h' e 0 (by omega)⟩
end Go.Proofs.YtigflhomnoledaaGreatDoor.Am

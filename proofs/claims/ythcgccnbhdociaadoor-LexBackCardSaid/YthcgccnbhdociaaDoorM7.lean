/- The abstract machine and its walks (a verified interpreter of the model's code: plain definitions and lemmas, no condition). -/
import Derived.Test.YthcgccnbhdociaaDoorM3
import Derived.Handed
import Derived.HandedShaped

namespace Go.Proofs.YthcgccnbhdociaaDoor.Am
variable [Lay]
set_option linter.unusedSectionVars false
set_option linter.unusedVariables false
open Go Go.RowKit

/-! A row that lists variables: the world's shape and what is laid, both. -/
theorem returns_shaped_and {H : Type} {enc : TypeId × Value → H} {a : Assume} {C : Checked} {os : Os} {f : FuncId} {fn : Func} {s : ChangeSpec} {conds : List PathCond} {apart fresh handsOn again : Bool} {X : World → Array Value → Prop}
    (hX : ∀ (w w' : World) (args : Array Value), w.heap = w'.heap → X w args → X w' args)
    (own : ownKnob C.prog.godebug = none) (started : os.Started) (noInit : C.prog.inits.idxOf? f = none) (hfn : C.prog.funcs[f]? = some fn)
    (witness : ∃ (w : World) (tape : Tape) (i : Input), w.os = os ∧ (w.forCall tape i).Shaped C.prog ∧ i.vars = [] ∧ Input.okWide C.prog (w.forCall tape i) .any w.heap.size f i ∧
      ((s.pre enc C.prog fn conds apart (w.forCall tape i).memory i.args ∧ X (w.forCall tape i).memory i.args) ∧ sizedMet enc C.prog fn (OpenSpec.ofChange s) apart (w.forCall tape i).memory i.args) ∧ a.holds C.prog (lone (Frame.enter C.prog f i.args .normal) [] (w.forCall tape i)))
    (contract : ∀ (W : World) (base : Nat) (args : Array Value) (ds gs : List (DataW H)) (before : List MemPlace),
      (∀ (j : Nat) t v, fn.params[j]? = some t → args[j]? = some v → Value.okWide C.prog W .any base t v) →
      DataW.Whole enc C.prog fn.params.toList s.vars apart W args.toList ds gs before →
      X W args → W.ShapedOpen C.prog →
      Calls C.prog f args W fun e W' => ∃ v, e = .returned v ∧ s.post enc C.prog fn apart fresh handsOn again W args v W') :
    ReturnsInHanded a C os f .any (fun w args => (s.pre enc C.prog fn conds apart w args ∧ X w args) ∧ sizedMet enc C.prog fn (OpenSpec.ofChange s) apart w args) (s.post enc C.prog fn apart fresh handsOn again) := by
  refine returnsInHanded_of_calls own started noInit witness ?_
  intro w tape i _ hsh _ hok hpre hholds
  obtain ⟨_, _, _, fn', hfn', _, _, _, _, hval⟩ := hok
  have e : fn' = fn := Option.some.inj (hfn'.symm.trans hfn)
  subst e
  obtain ⟨⟨⟨ds, gs, before, hw, hc⟩, hx⟩, hz⟩ := hpre
  have hw' := DataW.Whole.of_heap (w' := w.forCall tape i) (by rfl) hw
  refine (contract (w.forCall tape i) w.heap.size i.args ds gs before hval hw' (hX _ _ _ (by rfl) hx) hsh).mono fun e W' ⟨v, he, hp⟩ => ?_
  subst he
  exact ChangeSpec.post_blind hp

theorem shp_two {P : Program} {h : Heap} {t u : TypeId} {xs : List V} (hs : ShpL P h [t, u] xs) : ∃ a b n m, xs = [a, b] ∧ ShpV P h n t a ∧ ShpV P h m u b := by
  match xs, hs with
  | [a, b], ⟨⟨n, h0⟩, ⟨m, h1⟩, _⟩ => exact ⟨a, b, n, m, rfl, h0, h1⟩
theorem shpv_str {P : Program} {h : Heap} {n : Nat} {t : TypeId} {v : V} (hs : ShpV P h n t v) (hu : P.underlying t = some .string) : ∃ s : List UInt8, v = .str s ∧ s.length ≤ maxLen := by
  unfold ShpV at hs
  rw [hu] at hs
  obtain ⟨s, e, q⟩ := Shp.str hs hu
  simp only [List.cons.injEq, and_true] at e
  exact ⟨s, e, q⟩
theorem shpv_slice {P : Program} {h : Heap} {n : Nat} {t e : TypeId} {v : V} (hs : ShpV P h n t v) (hu : P.underlying t = some (.slice e)) {c : Nat} (hc : P.cellsOf e = c) (hc0 : c ≠ 0) : ∃ m len, Sld h c v len (Shp P h m e) := by
  unfold ShpV at hs
  rw [hu] at hs
  subst hc
  obtain ⟨m, w, len, _, e1, g⟩ := Shp.slice hs hu hc0
  simp only [List.cons.injEq, and_true] at e1
  subst e1
  exact ⟨m, len, g⟩
end Go.Proofs.YthcgccnbhdociaaDoor.Am

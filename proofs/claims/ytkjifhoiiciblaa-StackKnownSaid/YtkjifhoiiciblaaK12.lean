/- The abstract machine, part K12 (a verified interpreter of the model's code: plain definitions and lemmas, no condition). -/
import Derived.Test.YtkjifhoiiciblaaK11
namespace Go.Proofs.Ytkjifhoiiciblaa.Am
open Go Go.RowKit

section
variable {P : Program}

theorem OR.of_val {h h' : Heap} {x : Option V} {v : V} (he : OR.of h x = .val v h') : x = some v ∧ h' = h := by
  cases x with
  | none => cases he
  | some y => simp only [OR.of, OR.val.injEq] at he; exact ⟨by rw [he.1], he.2.symm⟩

/-! Copy. -/
theorem copyV_sound {w0 : World} {E : Env} {h h' : Heap} {w : World} (s : Sim w0 E h w) {t e : TypeId} {rest : List TypeId} {size : Nat} (ht : ∀ w, (underlying t).run P w = .ok (.slice e) w) (hsz : ∀ w, (sizeOf e).run P w = .ok size w)
    {x y v : V} {X Y : Value} {ty : TypeId} (he : copyV size x y h = .val v h') (hx : Rel E x X) (hy : Rel E y Y) : Gives w0 P E w (Builtin.copy_ (t :: rest).toArray ty #[X, Y]) v h' := by
  unfold copyV at he
  cases hl1 : lenV x with
  | none => rw [hl1] at he; cases he
  | some dl =>
    rw [hl1] at he
    simp only at he
    cases hl2 : lenV y with
    | none => rw [hl2] at he; cases he
    | some sl =>
      rw [hl2] at he
      simp only at he
      have hls := lenV_sound (P := P) hl2 hy w
      cases hsrc : srcCells h size y (Nat.min sl dl) with
      | none => rw [hsrc] at he; cases he
      | some cells =>
        rw [hsrc] at he
        simp only at he
        obtain ⟨l, hl, hll, hrun⟩ := srcCells_sound (P := P) s hsrc hy
        cases x <;> simp only at he <;> try (cases he; done)
        · rename_i b off len cap
          simp only [lenV, Option.some.injEq] at hl1
          subst hl1
          simp only [Rel] at hx
          obtain ⟨p, hp, _, rfl⟩ := hx
          cases hlay : lay h b off cells with
          | none => rw [hlay] at he; cases he
          | some h1 =>
            rw [hlay] at he
            simp only [OR.val.injEq] at he
            obtain ⟨rfl, rfl⟩ := he
            obtain ⟨w', hst, hs'⟩ := lay_sound (P := P) s hl hlay hp
            exact ⟨goInt (Nat.min sl len), w', E, by simp [Builtin.copy_, ht, hls, hsz, hrun w rfl, hst], Env.le.refl E, by simp [Rel, goInt], hs'⟩
        · rename_i b off len idx
          simp only [lenV, Option.some.injEq] at hl1
          subst hl1
          simp only [Rel] at hx
          obtain ⟨p, hp, _, rfl⟩ := hx
          cases hlay : lay h b off cells with
          | none => rw [hlay] at he; cases he
          | some h1 =>
            rw [hlay] at he
            simp only [OR.val.injEq] at he
            obtain ⟨rfl, rfl⟩ := he
            obtain ⟨w', hst, hs'⟩ := lay_sound (P := P) s hl hlay hp
            exact ⟨goInt (Nat.min sl len), w', E, by simp [Builtin.copy_, ht, hls, hsz, hrun w rfl, hst], Env.le.refl E, by simp [Rel, goInt], hs'⟩
        · simp only [lenV, Option.some.injEq] at hl1
          subst hl1
          simp only [Rel] at hx
          subst hx
          simp only [OR.val.injEq] at he
          obtain ⟨rfl, rfl⟩ := he
          have hr0 := hrun w rfl
          have e0 : Nat.min sl 0 = 0 := Nat.min_zero _
          rw [e0] at hr0
          exact Gives.plain (Z := goInt (Nat.min sl 0)) s (by simp [Builtin.copy_, ht, hls, hsz, hr0]) (by simp [Rel, goInt])

/-! Conversions. -/
theorem uint8s_sound {E : Env} : ∀ {vs : List V} {l : List Value} {bs : List UInt8}, RelL E vs l → uint8s vs = some bs →
    ∀ (acc : ByteArray) (w : World), (do
      let mut s := acc
      for c in l do
        let .int .u8 n := c | stuck "bytesToString: byte expected"
        s := s.push (UInt8.ofNat n.toNat)
      pure s : Sem ByteArray).run P w = .ok ⟨⟨acc.data.toList ++ bs⟩⟩ w
  | [], l, bs, hl, h, acc, w => by
    simp only [RelL] at hl; subst hl
    simp only [uint8s, Option.some.injEq] at h
    subst h
    simp
  | v :: vs, l, bs, hl, h, acc, w => by
    simp only [RelL] at hl
    obtain ⟨y, ys, rfl, hy, hl⟩ := hl
    obtain ⟨n, rfl⟩ : ∃ n, v = .int .u8 n := by
      cases v with
      | int k n => cases k <;> first | exact ⟨n, rfl⟩ | (simp [uint8s] at h; done)
      | _ => simp [uint8s] at h
    simp only [uint8s] at h
    have := hy.int_of; subst this
    cases hu : uint8s vs with
    | none => rw [hu] at h; cases h
    | some l0 =>
      rw [hu] at h
      simp only [Option.some.injEq] at h
      subst h
      have ih := uint8s_sound hl hu (acc.push (UInt8.ofNat n.toNat)) w
      have e : (acc.push (UInt8.ofNat n.toNat)).data.toList = acc.data.toList ++ [UInt8.ofNat n.toNat] := by simp
      rw [e, List.append_assoc] at ih
      simp only [List.forIn_cons]
      simpa using ih

theorem strAt_sound {w0 : World} {E : Env} {h h' : Heap} {w : World} (s : Sim w0 E h w) {b : Pa} {off len cap : Nat} {v : V} (he : strAt b off len h = .val v h') :
    h' = h ∧ ∃ p bs, E b = some p ∧ v = .str bs ∧ (Conv.bytesToString (.slice (some ⟨p.blk, p.base + off, none⟩) len cap)).run P w = .ok (.string ⟨⟨bs⟩⟩) w := by
  unfold strAt at he
  have hb := s.blk b
  have key : ∀ n cs p c el fz, E b = some p → w.heap[p.blk]? = some (.cells c el fz) → CellsOk E n p.base cs c → (bif Nat.ble (off + len) n then (match uint8s (gets cs off len) with
      | some l => OR.val (.str l) h
      | none => .fail) else .fail) = .val v h' → h' = h ∧ ∃ p bs, E b = some p ∧ v = .str bs ∧ (Conv.bytesToString (.slice (some ⟨p.blk, p.base + off, none⟩) len cap)).run P w = .ok (.string ⟨⟨bs⟩⟩) w := by
    intro n cs p c el fz hp hh hc he
    obtain ⟨h1, h2⟩ := cond_val he
    rw [Nat.ble_eq] at h1
    cases hu : uint8s (gets cs off len) with
    | none => rw [hu] at h2; cases h2
    | some bs =>
      rw [hu] at h2
      simp only [OR.val.injEq] at h2
      obtain ⟨rfl, rfl⟩ := h2
      refine ⟨rfl, p, bs, hp, rfl, ?_⟩
      have hl := run_loadCells (P := P) (off := p.base + off) (n := len) hh (by have := hc.1; omega)
      have hr := uint8s_sound (P := P) (gets_rel hc len off h1) hu ByteArray.empty w
      simp only [Conv.bytesToString, Sem.run_bind, hl, Result.andThen_ok]
      simp only [Sem.run_bind] at hr
      rw [← Array.forIn_toList]
      simp only
      generalize hq : (Sem.run P (forIn ((c.toList.drop (p.base + off)).take len) ByteArray.empty _) w) = q at hr ⊢
      cases q with
      | ok a w' =>
        simp only [Result.andThen_ok, Sem.run_pure, Result.ok.injEq] at hr ⊢
        obtain ⟨rfl, rfl⟩ := hr
        simp
      | halt _ _ => simp at hr
  cases hg : h.get b with
  | dead => rw [hg] at he; cases he
  | iter _ _ => rw [hg] at he; cases he
  | view n cs =>
    rw [hg] at he hb
    obtain ⟨_, p, c, el, fz, h1, _, h3, h7⟩ := hb
    exact key n cs p c el fz h1 h3 h7 he
  | cells n cs esz st =>
    rw [hg] at he hb
    obtain ⟨_, p, c, el, fz, h1, _, h3, _, _, _, h7⟩ := hb
    exact key n cs p c el fz h1 h3 h7 he
end
end Go.Proofs.Ytkjifhoiiciblaa.Am

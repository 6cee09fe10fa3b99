/- What goes out, up to a tick: plain laws; a row of what went out in new memory. -/
import Derived.Test.YthipfcmjpgbemaaSf
namespace Go.Proofs.Ythipfcmjpgbemaa
open Go.RowKit

/-- What a search has found, of the lines ahead of n. -/
structure Found (tick : Nat) (ls : List Ln) (n : Nat) (f : Fnd) : Prop where
  no : f.ok = false → f = ⟨0, 0, false⟩ ∧ ∀ c L, c < n → ls[c]? = some L → (lnWhen tick L).2 = false
  yes : f.ok = true → ∃ c L, f.cls = (c : Nat) ∧ c < n ∧ ls[c]? = some L ∧ lnWhen tick L = (f.at', true) ∧ ∀ d M, d < n → ls[d]? = some M → (lnWhen tick M).2 = true → f.at' ≤ (lnWhen tick M).1 ∧ (d < c → f.at' < (lnWhen tick M).1)
theorem found_take (tick : Nat) (ls : List Ln) : ∀ n, n ≤ ls.length → Found tick ls n (nextL tick 0 ⟨0, 0, false⟩ (ls.take n))
  | 0, _ => ⟨fun _ => ⟨rfl, fun c L h => absurd h (Nat.not_lt_zero _)⟩, fun h => by simp [nextL] at h⟩
  | n + 1, hn => by
    have ih := found_take tick ls n (by omega)
    obtain ⟨L, hL⟩ : ∃ L, ls[n]? = some L := ⟨_, List.getElem?_eq_getElem (by omega)⟩
    rw [List.take_add_one, hL, Option.toList_some, nextL_snoc, Nat.zero_add, List.length_take_of_le (by omega)]
    generalize nextL tick 0 ⟨0, 0, false⟩ (ls.take n) = f at ih
    obtain ⟨a, ev, hw⟩ : ∃ a ev, lnWhen tick L = (a, ev) := ⟨_, _, rfl⟩
    cases ev with
    | false =>
      have e : lookL tick f n L = f := by simp [lookL, hw]
      rw [e]
      refine ⟨fun h => ⟨(ih.no h).1, fun c M hc hM => ?_⟩, fun h => ?_⟩
      · rcases Nat.lt_or_ge c n with h1 | h1
        · exact (ih.no h).2 c M h1 hM
        · rw [show c = n by omega, hL] at hM
          injection hM with hM
          rw [← hM, hw]
      · obtain ⟨c, M, h1, h2, h3, h4, h5⟩ := ih.yes h
        refine ⟨c, M, h1, by omega, h3, h4, fun d N hd hN hNt => ?_⟩
        rcases Nat.lt_or_ge d n with h6 | h6
        · exact h5 d N h6 hN hNt
        · rw [show d = n by omega, hL] at hN
          injection hN with hN
          rw [← hN, hw] at hNt
          cases hNt
    | true =>
      cases hok : f.ok with
      | false =>
        have e : lookL tick f n L = ⟨a, n, true⟩ := by simp [lookL, hw, hok]
        rw [e]
        refine ⟨fun h => (Bool.noConfusion h), fun _ => ⟨n, L, rfl, by omega, hL, hw, fun d M hd hM hMt => ?_⟩⟩
        rcases Nat.lt_or_ge d n with h6 | h6
        · rw [(ih.no hok).2 d M h6 hM] at hMt
          cases hMt
        · rw [show d = n by omega, hL] at hM
          injection hM with hM
          rw [← hM, hw]
          exact ⟨Nat.le_refl _, fun h => by omega⟩
      | true =>
        obtain ⟨c, M, h1, h2, h3, h4, h5⟩ := ih.yes hok
        by_cases hlt : a < f.at'
        · have e : lookL tick f n L = ⟨a, n, true⟩ := by simp [lookL, hw, hlt]
          rw [e]
          refine ⟨fun h => (Bool.noConfusion h), fun _ => ⟨n, L, rfl, by omega, hL, hw, fun d N hd hN hNt => ?_⟩⟩
          rcases Nat.lt_or_ge d n with h6 | h6
          · have := (h5 d N h6 hN hNt).1
            exact ⟨by show a ≤ _; omega, fun _ => by show a < _; omega⟩
          · rw [show d = n by omega, hL] at hN
            injection hN with hN
            rw [← hN, hw]
            exact ⟨Nat.le_refl _, fun h => by omega⟩
        · have e : lookL tick f n L = f := by simp [lookL, hw, hok, hlt]
          rw [e]
          refine ⟨fun h => (by rw [hok] at h; cases h), fun _ => ⟨c, M, h1, by omega, h3, h4, fun d N hd hN hNt => ?_⟩⟩
          rcases Nat.lt_or_ge d n with h6 | h6
          · exact h5 d N h6 hN hNt
          · rw [show d = n by omega, hL] at hN
            injection hN with hN
            rw [← hN, hw]
            exact ⟨by show f.at' ≤ a; omega, fun h => by omega⟩
theorem Sh.found (S : Sh) : Found S.tick S.ls S.ls.length S.next := by
  have h := found_take S.tick S.ls S.ls.length (Nat.le_refl _)
  rwa [List.take_length] at h

/-- What went out: when, of which class, what. -/
structure OutR where
  at' : Nat
  cls : Nat
  x : It
/-- The next step of a Release up to t. -/
def Sh.step (S : Sh) (t : Nat) : Option (Sh × OutR) :=
  if S.next.ok = false ∨ t < S.next.at' then none
  else match S.ls[S.next.cls.toNat]? with
    | some L => match L.Q.L with
      | x :: l => some (⟨S.next.at', S.ls.set S.next.cls.toNat (outL L S.next.at' x l)⟩, ⟨S.next.at', S.next.cls.toNat, x⟩)
      | [] => none
    | none => none
def relN : Nat → Nat → Sh → List OutR → Sh × List OutR
  | 0, t, S, o => (⟨t, S.ls⟩, o)
  | n + 1, t, S, o => match S.step t with
    | none => (⟨t, S.ls⟩, o)
    | some (S', x) => relN n t S' (o ++ [x])
/-- How many items are queued. -/
def total (ls : List Ln) : Nat := (ls.map fun L => L.Q.L.length).sum
def Sh.rel (S : Sh) (t : Nat) : Sh × List OutR := relN (total S.ls + 1) (max t S.tick) S []

theorem total_set : ∀ (ls : List Ln) (c : Nat) (L M : Ln), ls[c]? = some L → total (ls.set c M) + L.Q.L.length = total ls + M.Q.L.length
  | [], c, L, M, h => by simp at h
  | K :: ls, 0, L, M, h => by
    simp at h
    subst h
    simp [total]
    omega
  | K :: ls, c + 1, L, M, h => by
    have ih := total_set ls c L M (by simpa using h)
    simp [total] at ih ⊢
    omega

/-- What a step is. -/
theorem step_some {S S' : Sh} {t : Nat} {o : OutR} (h : S.step t = some (S', o)) :
    ∃ L l, S.next.ok = true ∧ S.next.cls = (o.cls : Nat) ∧ S.next.at' = o.at' ∧ ¬ t < o.at' ∧ S.ls[o.cls]? = some L ∧ L.Q.L = o.x :: l ∧ S' = ⟨o.at', S.ls.set o.cls (outL L o.at' o.x l)⟩ ∧ total S'.ls + 1 = total S.ls := by
  unfold Sh.step at h
  split at h
  · cases h
  · rename_i hn
    split at h
    · rename_i L hL
      split at h
      · rename_i x l hx
        injection h with h
        injection h with h1 h2
        subst h1 h2
        have hok : S.next.ok = true := by
          cases he : S.next.ok
          · exact absurd (.inl he) hn
          · rfl
        obtain ⟨c, M, hc, -, hM, hw, -⟩ := S.found.yes hok
        refine ⟨L, l, hok, by rw [hc]; rfl, rfl, fun h => hn (.inr h), hL, hx, rfl, ?_⟩
        have ht := total_set S.ls S.next.cls.toNat L (outL L S.next.at' x l) hL
        rw [hx] at ht
        have e : (outL L S.next.at' x l).Q.L = l := rfl
        rw [e] at ht
        show total (S.ls.set S.next.cls.toNat (outL L S.next.at' x l)) + 1 = _
        simp at ht
        omega
      · cases h
    · cases h
theorem step_none {S : Sh} {t : Nat} (h : S.step t = none) : S.next.ok = false ∨ t < S.next.at' := by
  rcases Classical.em (S.next.ok = false ∨ t < S.next.at') with h1 | h1
  · exact h1
  · exfalso
    unfold Sh.step at h
    rw [if_neg h1] at h
    have hok : S.next.ok = true := by
      cases he : S.next.ok
      · exact absurd (.inl he) h1
      · rfl
    obtain ⟨c, M, hc, -, hM, hw, -⟩ := S.found.yes hok
    rw [hc, Int.toNat_natCast, hM] at h
    cases hq : M.Q.L with
    | nil => simp [lnWhen, hq] at hw
    | cons x l => simp [hq] at h
end Go.Proofs.Ythipfcmjpgbemaa

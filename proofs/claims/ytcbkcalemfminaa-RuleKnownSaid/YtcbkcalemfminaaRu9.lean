/- Whether a closure of what rules ask for says no: walked; the row of them, searched. -/
import Derived.Test.YtcbkcalemfminaaRu8
namespace Go.Proofs.Ytcbkcalemfminaa
open Go.RowKit
attribute [local go_sem ↓] load_ad load_pf load_ru load_ky load_bs build_pf build_ru rows_pf rows_ru

/-- A rule, a key, in a variable. -/
structure RuAt (w : World) (b : Nat) (r : Ru) : Prop where
  ok : r.Ok
  lt : b < w.heap.size
  rng : w.rangeAt b 0 r.cs
structure KyAt (w : World) (b : Nat) (k : Ky) : Prop where
  ok : k.Ok
  lt : b < w.heap.size
  rng : w.rangeAt b 0 k.cs
theorem RuAt.below {w w' : World} {b : Nat} {r : Ru} (h : RuAt w b r) (hB : Below w.heap.size w w') : RuAt w' b r := ⟨h.ok, Nat.lt_of_lt_of_le h.lt hB.size, range_below h.rng h.lt hB⟩
theorem KyAt.below {w w' : World} {b : Nat} {k : Ky} (h : KyAt w b k) (hB : Below w.heap.size w w') : KyAt w' b k := ⟨h.ok, Nat.lt_of_lt_of_le h.lt hB.size, range_below h.rng h.lt hB⟩

set_option maxRecDepth 100000 in
theorem ask_fits (i : Nat) (hi : i < 6) {w : World} {g c rb kb : Nat} {r : Ru} {k : Ky} (hA : Asks w g c) (hr : RuAt w rb r) (hk : KyAt w kb k) :
    Calls Try.prog 28 #[.agg #[fitsF c i, holdsF i], .pointer (some ⟨rb, 0, none⟩), .pointer (some ⟨kb, 0, none⟩)] w fun e w' => e = .returned (.bool (!fitsP i r k)) ∧ Below w.heap.size w w' := by
  have hB : Below w.heap.size w (w.alloc (.cells #[fitsF c i, holdsF i] 68)) := (Below.refl _ _).alloc (Nat.le_refl _) _
  have hr1 := hr.below hB
  have hk1 := hk.below hB
  have l0 := row_ru hr.ok hr1.rng
  have l1 := row_ky hk.ok hk1.rng
  have hof := (hA.below hB).of
  rcases (show i = 0 ∨ i = 1 ∨ i = 2 ∨ i = 3 ∨ i = 4 ∨ i = 5 by omega) with rfl | rfl | rfl | rfl | rfl | rfl
  all_goals
    dsimp only [fitsF, holdsF] at hB hr1 hk1 l0 l1 hof ⊢
    go_enter Try.func28, Try.ntmps28
    go_wp2_with fail
    first
      | refine (fits0 hr.ok hk.ok _ hof).mono ?_
      | refine (fits1 hr.ok hk.ok _).mono ?_
      | refine (fits2 hr.ok hk.ok _).mono ?_
      | refine (fits3 hr.ok hk.ok _).mono ?_
      | refine (fits4 hr.ok hk.ok _).mono ?_
      | refine (fits5 hr.ok hk.ok _).mono ?_
    rintro e w2 ⟨rfl, hB2⟩
    go_wp2_with fail
    go_ret
    exact ⟨rfl, hB.trans (hB2.mono (by simp))⟩

set_option maxRecDepth 100000 in
theorem ask_holds (i : Nat) (hi : i < 6) {w : World} {c rb sb : Nat} {r s : Ru} (hr : RuAt w rb r) (hs : RuAt w sb s) :
    Calls Try.prog 26 #[.agg #[fitsF c i, holdsF i], .pointer (some ⟨rb, 0, none⟩), .pointer (some ⟨sb, 0, none⟩)] w fun e w' => e = .returned (.bool (!holdsP i r s)) ∧ Below w.heap.size w w' := by
  have hB : Below w.heap.size w (w.alloc (.cells #[fitsF c i, holdsF i] 68)) := (Below.refl _ _).alloc (Nat.le_refl _) _
  have hr1 := hr.below hB
  have hs1 := hs.below hB
  have l0 := row_ru hr.ok hr1.rng
  have l1 := row_ru hs.ok hs1.rng
  rcases (show i = 0 ∨ i = 1 ∨ i = 2 ∨ i = 3 ∨ i = 4 ∨ i = 5 by omega) with rfl | rfl | rfl | rfl | rfl | rfl
  all_goals
    dsimp only [fitsF, holdsF] at hB hr1 hs1 l0 l1 ⊢
    go_enter Try.func26, Try.ntmps26
    go_wp2_with fail
    first
      | refine (holds0 hr.ok hs.ok _).mono ?_
      | refine (holds1 hr.ok hs.ok _).mono ?_
      | refine (holds2 hr.ok hs.ok _).mono ?_
      | refine (holds3 hr.ok hs.ok _).mono ?_
      | refine (holds4 hr.ok hs.ok _).mono ?_
      | refine (holds5 hr.ok hs.ok _).mono ?_
    rintro e w2 ⟨rfl, hB2⟩
    go_wp2_with fail
    go_ret
    exact ⟨rfl, hB.trans (hB2.mono (by simp))⟩
end Go.Proofs.Ytcbkcalemfminaa

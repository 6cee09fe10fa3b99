/- Rows of rules: searched by New's and Which's closures; cloned: walked. -/
import Derived.Test.YtcbkcalemfminaaRua
import Derived.Lib.SliceRun
namespace Go.Proofs.Ytcbkcalemfminaa
open Go.RowKit
attribute [local go_sem ↓] load_ad load_pf load_ru load_ky load_bs build_pf build_ru

/-- A row of rules. -/
def Rules (w : World) (v : Value) (l : List Ru) : Prop :=
  ∃ ao cap, v = .slice ao l.length cap ∧ (ao = none → l.length = 0) ∧ (0 < l.length → ∃ b o, ao = some ⟨b, o, none⟩ ∧ b < w.heap.size ∧ ∀ i r, l[i]? = some r → r.Ok ∧ w.rangeAt b (o + i * 44) r.cs)
theorem Rules.below {w w' : World} {v : Value} {l : List Ru} (h : Rules w v l) (hB : Below w.heap.size w w') : Rules w' v l := by
  obtain ⟨ao, cap, e, hn, h⟩ := h
  refine ⟨ao, cap, e, hn, fun h0 => ?_⟩
  obtain ⟨b, o, e, hb, hA⟩ := h h0
  exact ⟨b, o, e, Nat.lt_of_lt_of_le hb hB.size, fun i r hi => ⟨(hA i r hi).1, range_below (hA i r hi).2 hb hB⟩⟩
theorem Rules.ok {w : World} {v : Value} {l : List Ru} (h : Rules w v l) : ∀ r ∈ l, r.Ok := by
  intro r hr
  obtain ⟨ao, cap, e, hn, h⟩ := h
  obtain ⟨i, hi⟩ := List.mem_iff_getElem?.1 hr
  have hl := (List.getElem?_eq_some_iff.1 hi).1
  obtain ⟨b, o, e, hb, hA⟩ := h (by omega)
  exact (hA i r hi).1

/-- Which of a row is the first. -/
def FirstOf (p : Ru → Bool) (l : List Ru) (n : Int) : Prop := (∃ (i : Nat) (r : Ru), n = (i : Int) ∧ l[i]? = some r ∧ p r = true ∧ ∀ j s, j < i → l[j]? = some s → p s = false) ∨ (n = -1 ∧ ∀ s ∈ l, p s = false)
theorem FirstOf.any {p : Ru → Bool} {l : List Ru} {n : Int} (h : FirstOf p l n) : decide (0 ≤ n) = l.any p := by
  rcases h with ⟨i, r, rfl, hi, hp, _⟩ | ⟨rfl, hn⟩
  · rw [decide_eq_true (by omega)]
    exact (List.any_eq_true.2 ⟨r, List.mem_of_getElem? hi, hp⟩).symm
  · have : l.any p = false := List.any_eq_false.2 (fun r hr => by rw [hn r hr]; decide)
    rw [this]
    rfl
def RIdxRel (W : World) (p : Ru → Bool) (l : List Ru) (i : Value) (w : World) : Prop := ∃ k : Nat, i = .int .i64 k ∧ k ≤ l.length ∧ Below W.heap.size W w ∧ ∀ j s, j < k → l[j]? = some s → p s = false

set_option maxRecDepth 100000 in
theorem new1_is {r : Ru} (hr : r.Ok) (w : World) :
    Calls Try.prog 22 #[.agg r.arr] w fun e w' => e = .returned (.bool (!r.right)) ∧ Below w.heap.size w w' := by
  have hB : Below w.heap.size w (w.alloc (.cells r.arr 43)) := (Below.refl _ _).alloc (Nat.le_refl _) _
  have hL := row_ru hr (range_block (alloc_block_new w (.cells r.arr 43)))
  go_enter Try.func22, Try.ntmps22
  go_wp2_with fail
  refine (rright_is hr _).mono ?_
  rintro e w2 ⟨rfl, hB2⟩
  go_wp2_with fail
  go_ret
  exact ⟨rfl, hB.trans (hB2.mono (by simp))⟩
set_option maxRecDepth 100000 in
theorem which1_is {r : Ru} (hr : r.Ok) {w : World} {kb : Nat} {k : Ky} (hk : KyAt w kb k) :
    Calls Try.prog 30 #[.agg r.arr, .pointer (some ⟨kb, 0, none⟩)] w fun e w' => e = .returned (.bool (r.fits k)) ∧ Below w.heap.size w w' := by
  have hB : Below w.heap.size w (w.alloc (.cells r.arr 43)) := (Below.refl _ _).alloc (Nat.le_refl _) _
  have hL := row_ru hr (range_block (alloc_block_new w (.cells r.arr 43)))
  have hK := row_ky hk.ok (hk.below hB).rng
  go_enter Try.func30, Try.ntmps30
  go_wp2_with fail
  refine (fits_is hr hk.ok _).mono ?_
  rintro e w2 ⟨rfl, hB2⟩
  go_wp2_with fail
  go_ret
  exact ⟨rfl, hB.trans (hB2.mono (by simp))⟩

set_option maxRecDepth 100000 in
theorem idx_new  (p : Ru → Bool) {w : World} {v : Value} {l : List Ru} (hl : Rules w v l) (hlen : l.length ≤ 1000000)
    (hcall : ∀ r : Ru, r.Ok → ∀ w', Below w.heap.size w w' → Calls Try.prog 22 #[.agg r.arr] w' fun e w'' => e = .returned (.bool (p r)) ∧ Below w'.heap.size w' w'') :
    Calls Try.prog 29 #[v, .func (.func 22) #[] #[]] w fun e w' => ∃ n : Int, e = .returned (.int .i64 n) ∧ FirstOf p l n ∧ Below w.heap.size w w' := by
  obtain ⟨ao, cap, rfl, hn, hrow⟩ := id hl
  have HC := Lib.hid hcall
  have HL := Lib.hid hrow
  clear hcall hl hrow hn
  go_enter Try.func29, Try.ntmps29
  go_wp2_with fail
  go_loopw [8] (RIdxRel w p l) (fun i _ => l.length - (intOf i).toNat)
  case atStart => exact ⟨0, rfl, Nat.zero_le _, Below.refl _ _, fun j s hj => by omega⟩
  case round =>
    obtain ⟨k, rfl, hk, hB, hpk⟩ := hrel
    by_cases hlt : k < l.length
    · obtain ⟨b, o, rfl, hbl, hA⟩ := HL.out (by omega)
      obtain ⟨r, hrk⟩ : ∃ r, l[k]? = some r := ⟨_, List.getElem?_eq_getElem hlt⟩
      obtain ⟨hr, hrg⟩ := hA k r hrk
      have l0 := row_ru hr (range_below hrg hbl hB)
      have HH := Lib.hid (And.intro hB (And.intro hpk hrk))
      have hcl := Lib.hid (HC.out r hr wr hB)
      clear hA hB hpk hrk hrg
      go_wp2_with fail
      refine hcl.out.mono ?_
      rintro e w2 ⟨rfl, hB2⟩
      have HB2 := Lib.hid (HH.out.1.trans (hB2.mono HH.out.1.size))
      clear hB2 l0
      cases hpk : p r with
      | true =>
        go_wp2_with fail
        go_ret
        exact ⟨_, rfl, .inl ⟨k, r, rfl, HH.out.2.2, hpk, HH.out.2.1⟩, HB2.out⟩
      | false =>
        have HN : Hid (RIdxRel w p l (.int .i64 (k + 1 : Nat)) w2) := ⟨k + 1, rfl, hlt, HB2.out, fun j s hj hs => by
          rcases Nat.lt_or_ge j k with h | h
          · exact HH.out.2.1 j s h hs
          · rw [show j = k by omega, HH.out.2.2] at hs
            injection hs with hs
            rw [← hs]; exact hpk⟩
        clear hpk
        go_wp2_with fail
        go_roundw
        case rel => exact HN.out
        case measure => simp [intOf]; omega
    · have HH := Lib.hid (And.intro hB hpk)
      clear hB hpk
      go_wp2_with fail
      go_ret
      exact ⟨_, rfl, .inr ⟨rfl, fun s hs => by
        obtain ⟨j, hj⟩ := List.mem_iff_getElem?.1 hs
        exact HH.out.2 j s (by have := (List.getElem?_eq_some_iff.1 hj).1; omega) hj⟩, HH.out.1⟩

set_option maxRecDepth 100000 in
theorem idx_which (c1 : Value) (p : Ru → Bool) {w : World} {v : Value} {l : List Ru} (hl : Rules w v l) (hlen : l.length ≤ 1000000)
    (hcall : ∀ r : Ru, r.Ok → ∀ w', Below w.heap.size w w' → Calls Try.prog 30 #[.agg r.arr, c1] w' fun e w'' => e = .returned (.bool (p r)) ∧ Below w'.heap.size w' w'') :
    Calls Try.prog 29 #[v, .func (.func 30) #[] #[c1]] w fun e w' => ∃ n : Int, e = .returned (.int .i64 n) ∧ FirstOf p l n ∧ Below w.heap.size w w' := by
  obtain ⟨ao, cap, rfl, hn, hrow⟩ := id hl
  have HC := Lib.hid hcall
  have HL := Lib.hid hrow
  clear hcall hl hrow hn
  go_enter Try.func29, Try.ntmps29
  go_wp2_with fail
  go_loopw [8] (RIdxRel w p l) (fun i _ => l.length - (intOf i).toNat)
  case atStart => exact ⟨0, rfl, Nat.zero_le _, Below.refl _ _, fun j s hj => by omega⟩
  case round =>
    obtain ⟨k, rfl, hk, hB, hpk⟩ := hrel
    by_cases hlt : k < l.length
    · obtain ⟨b, o, rfl, hbl, hA⟩ := HL.out (by omega)
      obtain ⟨r, hrk⟩ : ∃ r, l[k]? = some r := ⟨_, List.getElem?_eq_getElem hlt⟩
      obtain ⟨hr, hrg⟩ := hA k r hrk
      have l0 := row_ru hr (range_below hrg hbl hB)
      have HH := Lib.hid (And.intro hB (And.intro hpk hrk))
      have hcl := Lib.hid (HC.out r hr wr hB)
      clear hA hB hpk hrk hrg
      go_wp2_with fail
      refine hcl.out.mono ?_
      rintro e w2 ⟨rfl, hB2⟩
      have HB2 := Lib.hid (HH.out.1.trans (hB2.mono HH.out.1.size))
      clear hB2 l0
      cases hpk : p r with
      | true =>
        go_wp2_with fail
        go_ret
        exact ⟨_, rfl, .inl ⟨k, r, rfl, HH.out.2.2, hpk, HH.out.2.1⟩, HB2.out⟩
      | false =>
        have HN : Hid (RIdxRel w p l (.int .i64 (k + 1 : Nat)) w2) := ⟨k + 1, rfl, hlt, HB2.out, fun j s hj hs => by
          rcases Nat.lt_or_ge j k with h | h
          · exact HH.out.2.1 j s h hs
          · rw [show j = k by omega, HH.out.2.2] at hs
            injection hs with hs
            rw [← hs]; exact hpk⟩
        clear hpk
        go_wp2_with fail
        go_roundw
        case rel => exact HN.out
        case measure => simp [intOf]; omega
    · have HH := Lib.hid (And.intro hB hpk)
      clear hB hpk
      go_wp2_with fail
      go_ret
      exact ⟨_, rfl, .inr ⟨rfl, fun s hs => by
        obtain ⟨j, hj⟩ := List.mem_iff_getElem?.1 hs
        exact HH.out.2 j s (by have := (List.getElem?_eq_some_iff.1 hj).1; omega) hj⟩, HH.out.1⟩

set_option maxRecDepth 100000 in
theorem contains_new {w : World} {v : Value} {l : List Ru} (hl : Rules w v l) (hlen : l.length ≤ 1000000) :
    Calls Try.prog 21 #[v, .func (.func 22) #[] #[]] w fun e w' => e = .returned (.bool (l.any fun r => !r.right)) ∧ Below w.heap.size w w' := by
  have HI := Lib.hid (idx_new (fun r => !r.right) hl hlen (fun r hr w' _ => new1_is hr w'))
  obtain ⟨ao, cap, rfl, _⟩ := hl
  go_enter Try.func21, Try.ntmps21
  go_wp2_with fail
  refine HI.out.mono ?_
  rintro e w2 ⟨n, rfl, hf, hB⟩
  go_wp2_with fail
  go_ret
  exact ⟨by rw [← hf.any]; rfl, hB⟩

end Go.Proofs.Ytcbkcalemfminaa

/- The first of a row that a closure says yes to: walked, for whatever closure. -/
import Derived.Test.YtcbkcalemfminaaRu9
namespace Go.Proofs.Ytcbkcalemfminaa
open Go.RowKit
attribute [local go_sem ↓] load_ad load_pf load_ru load_ky load_bs build_pf build_ru rows_pf rows_ru

/-- Which is the first. -/
def FirstIdx (p : Nat → Bool) (N : Nat) (n : Int) : Prop := (∃ i : Nat, n = (i : Int) ∧ i < N ∧ p i = true ∧ ∀ j, j < i → p j = false) ∨ (n = -1 ∧ ∀ j, j < N → p j = false)
theorem FirstIdx.any {p : Nat → Bool} {N : Nat} {n : Int} (h : FirstIdx p N n) : decide (0 ≤ n) = (List.range N).any p := by
  rcases h with ⟨i, rfl, hi, hp, _⟩ | ⟨rfl, hn⟩
  · rw [decide_eq_true (by omega)]
    exact (List.any_eq_true.2 ⟨i, List.mem_range.2 hi, hp⟩).symm
  · have : (List.range N).any p = false := List.any_eq_false.2 (fun j hj => by rw [hn j (List.mem_range.1 hj)]; decide)
    rw [this]
    rfl

def IdxRel (W : World) (p : Nat → Bool) (N : Nat) (i : Value) (w : World) : Prop := ∃ k : Nat, i = .int .i64 k ∧ k ≤ N ∧ Below W.heap.size W w ∧ ∀ j, j < k → p j = false

set_option maxRecDepth 100000 in
theorem idx_asks (g : Nat) (hg : g = 28 ∨ g = 26) (c1 c2 : Value) (p : Nat → Bool) {w : World} {ga c : Nat} (hA : Asks w ga c)
    (hcall : ∀ i, i < 6 → ∀ w', Below w.heap.size w w' → Calls Try.prog g #[.agg #[fitsF c i, holdsF i], c1, c2] w' fun e w'' => e = .returned (.bool (p i)) ∧ Below w'.heap.size w' w'') :
    Calls Try.prog 62 #[.slice (some ⟨ga, 0, none⟩) 6 6, .func (.func g) #[] #[c1, c2]] w fun e w' => ∃ n : Int, e = .returned (.int .i64 n) ∧ FirstIdx p 6 n ∧ Below w.heap.size w w' := by
  have HC := Lib.hid hcall
  have HA := Lib.hid hA
  clear hcall hA
  rcases hg with rfl | rfl
  all_goals
    go_enter Try.func62, Try.ntmps62
    go_wp2_with fail
    go_loopw [8] (IdxRel w p 6) (fun i _ => 6 - (intOf i).toNat)
    case atStart => exact ⟨0, rfl, Nat.zero_le _, Below.refl _ _, fun j hj => by omega⟩
    case round =>
      obtain ⟨k, rfl, hk, hB, hpk⟩ := hrel
      by_cases hlt : k < 6
      · have hAk := HA.out.below hB
        have a0 : wr.cell? ⟨ga, k * 2, none⟩ = some (fitsF c k) := by
          refine (cell_of_block hAk.row _).trans ?_
          rcases (show k = 0 ∨ k = 1 ∨ k = 2 ∨ k = 3 ∨ k = 4 ∨ k = 5 by omega) with rfl | rfl | rfl | rfl | rfl | rfl <;> rfl
        have a1 : wr.cell? ⟨ga, k * 2 + 1, none⟩ = some (holdsF k) := by
          refine (cell_of_block hAk.row _).trans ?_
          rcases (show k = 0 ∨ k = 1 ∨ k = 2 ∨ k = 3 ∨ k = 4 ∨ k = 5 by omega) with rfl | rfl | rfl | rfl | rfl | rfl <;> rfl
        have hki : (k : Int) < 6 := by omega
        have HH := Lib.hid (And.intro hB hpk)
        have hcl := Lib.hid (HC.out k hlt wr hB)
        clear hAk hB hpk
        go_wp2_with fail
        refine hcl.out.mono ?_
        rintro e w2 ⟨rfl, hB2⟩
        have HB2 := Lib.hid (HH.out.1.trans (hB2.mono HH.out.1.size))
        clear hB2
        cases hpk : p k with
        | true =>
          go_wp2_with fail
          go_ret
          exact ⟨_, rfl, .inl ⟨k, rfl, hlt, hpk, HH.out.2⟩, HB2.out⟩
        | false =>
          have HN : Hid (IdxRel w p 6 (.int .i64 (k + 1 : Nat)) w2) := ⟨k + 1, rfl, hlt, HB2.out, fun j hj => by
            rcases Nat.lt_or_ge j k with h | h
            · exact HH.out.2 j h
            · rw [show j = k by omega]; exact hpk⟩
          clear hpk
          go_wp2_with fail
          go_roundw
          case rel => exact HN.out
          case measure => simp [intOf]; omega
      · obtain rfl : k = 6 := by omega
        go_wp2_with fail
        go_ret
        exact ⟨_, rfl, .inr ⟨rfl, hpk⟩, hB⟩

set_option maxRecDepth 100000 in
theorem contains_asks (g : Nat) (hg : g = 28 ∨ g = 26) (c1 c2 : Value) (p : Nat → Bool) {w : World} {ga c : Nat} (hA : Asks w ga c)
    (hcall : ∀ i, i < 6 → ∀ w', Below w.heap.size w w' → Calls Try.prog g #[.agg #[fitsF c i, holdsF i], c1, c2] w' fun e w'' => e = .returned (.bool (p i)) ∧ Below w'.heap.size w' w'') :
    Calls Try.prog 25 #[.slice (some ⟨ga, 0, none⟩) 6 6, .func (.func g) #[] #[c1, c2]] w fun e w' => e = .returned (.bool ((List.range 6).any p)) ∧ Below w.heap.size w w' := by
  have HI := Lib.hid (idx_asks g hg c1 c2 p hA hcall)
  clear hcall
  go_enter Try.func25, Try.ntmps25
  go_wp2_with fail
  refine HI.out.mono ?_
  rintro e w2 ⟨n, rfl, hf, hB⟩
  go_wp2_with fail
  go_ret
  exact ⟨by rw [← hf.any]; rfl, hB⟩

/-- Whether a rule fits a packet. -/
def Ru.fits (r : Ru) (k : Ky) : Bool := r.right && !((List.range 6).any fun i => !fitsP i r k)

set_option maxRecDepth 100000 in
theorem fits_is {r : Ru} {k : Ky} (hr : r.Ok) (hk : k.Ok) (w : World) :
    Calls Try.prog 12 #[.agg r.arr, .agg k.arr] w fun e w' => e = .returned (.bool (r.fits k)) ∧ Below w.heap.size w w' := by
  have hmf : ∀ (fn : Fn) (first cap : Array Value) (w : World), (Instr.makeFunc fn first cap).run Try.prog w = .ok (.func fn first cap) w := fun fn first cap w => by simp [Instr.makeFunc]
  go_enter Try.func12, Try.ntmps12
  go_upto_region 1 with (fail)
  obtain ⟨hB, g0, g1⟩ := two_boxes w r.arr k.arr 43 28
  generalize (w.alloc (.cells r.arr 43)).alloc (.cells k.arr 28) = w1 at *
  have R1 : RuAt w1 w.heap.size r := ⟨hr, lt_of_obj g0, range_block g0⟩
  have K1 : KyAt w1 (w.heap.size + 1) k := ⟨hk, lt_of_obj g1, range_block g1⟩
  generalize hb : w.heap.size = b at *
  have HB := Lib.hid (And.intro hb (And.intro hB (And.intro R1 K1)))
  have l0 := row_ru hr R1.rng
  have hbl := R1.lt
  clear hb hB g0 g1 R1 K1
  go_wp2_with fail
  refine (rright_is hr _).mono ?_
  rintro e w2 ⟨rfl, hB2⟩
  have HB2 := Lib.hid hB2
  clear hB2 l0
  cases hR : r.right with
  | false =>
    go_wp2_with fail
    go_ret
    exact ⟨by simp [Ru.fits, hR], by rw [HB.out.1]; exact HB.out.2.1.trans (HB2.out.mono (by omega))⟩
  | true =>
    go_wp2_with fail
    refine (all_is _).mono ?_
    rintro e w3 ⟨g, c, rfl, hA, hB3⟩
    have hB3' := HB2.out.trans (hB3.mono HB2.out.size)
    have R3 := HB.out.2.2.1.below hB3'
    have K3 := HB.out.2.2.2.below hB3'
    have HCO := Lib.hid (contains_asks 28 (.inl rfl) (.pointer (some ⟨b, 0, none⟩)) (.pointer (some ⟨b + 1, 0, none⟩)) (fun i => !fitsP i r k) hA (fun i hi w' hB' => ask_fits i hi (hA.below hB') (R3.below hB') (K3.below hB')))
    have HB3 := Lib.hid hB3'
    clear hA hB3 hB3' R3 K3
    go_wp2_with fail
    refine HCO.out.mono ?_
    rintro e w4 ⟨rfl, hB4⟩
    have HFE : Hid (r.fits k = (r.right && !((List.range 6).any fun i => !fitsP i r k))) := rfl
    generalize ((List.range 6).any fun i => !fitsP i r k) = bb at *
    go_wp2_with fail
    go_ret
    exact ⟨by rw [HFE.out, hR]; rfl, by rw [HB.out.1]; exact HB.out.2.1.trans ((HB3.out.trans (hB4.mono HB3.out.size)).mono (by omega))⟩
end Go.Proofs.Ytcbkcalemfminaa

/- The reference's rules: which cover: walked. -/
import Derived.Test.YtcbkcalemfminaaRr7
import Derived.Test.YtcbkcalemfminaaRuk
namespace Go.Proofs.Ytcbkcalemfminaa
open Go.RowKit
attribute [local go_sem ↓] load_ra load_rp build_ra build_rp

/-- The first question of Covers, the second one. -/
def odd4 (r s : Ru) : Bool := (!decide (r.ver = 0) && !decide (r.ver = s.ver)) || (decide (0 ≤ r.proto) && !decide (r.proto = s.proto))
theorem covers_odd (r s : Ru) : r.covers s = (!odd4 r s && (prefixedB r.src s.src && prefixedB r.dst s.dst && decide (r.slo ≤ s.slo) && decide (s.shi ≤ r.shi) && decide (r.dlo ≤ s.dlo) && decide (s.dhi ≤ r.dhi))) := by
  unfold Ru.covers
  rw [all6]
  unfold odd4
  have h0 : holdsP 0 r s = !(!decide (r.ver = 0) && !decide (r.ver = s.ver)) := by
    show ((r.ver == 0) || (r.ver == s.ver)) = _
    rw [Bool.eq_iff_iff]
    simp
  have h1 : holdsP 1 r s = !(decide (0 ≤ r.proto) && !decide (r.proto = s.proto)) := by
    show (decide (r.proto < 0) || (r.proto == s.proto)) = _
    by_cases h1 : r.proto < 0
    · have h2 : ¬ 0 ≤ r.proto := by omega
      simp [h1, h2]
    · have h2 : 0 ≤ r.proto := by omega
      simp only [h1, h2, decide_true, decide_false, Bool.true_and, Bool.not_not, Bool.false_or]
      rw [Bool.eq_iff_iff]
      simp
  have h2 : holdsP 2 r s = prefixedB r.src s.src := rfl
  have h3 : holdsP 3 r s = prefixedB r.dst s.dst := rfl
  have h4 : holdsP 4 r s = (decide (r.slo ≤ s.slo) && decide (s.shi ≤ r.shi)) := rfl
  have h5 : holdsP 5 r s = (decide (r.dlo ≤ s.dlo) && decide (s.dhi ≤ r.dhi)) := rfl
  rw [h0, h1, h2, h3, h4, h5]
  simp [Bool.and_assoc]

set_option maxRecDepth 100000 in
set_option maxHeartbeats 2000000 in
theorem rcovers_is {r s : Ru} (hr : r.Ok) (hs : s.Ok) (w : World) :
    Calls Try.prog 66 #[.agg r.arr, .agg s.arr] w fun e w' => e = .returned (.bool (r.covers s)) ∧ Below w.heap.size w w' := by
  go_enter Try.func66, Try.ntmps66
  go_upto_region 1 with (fail)
  obtain ⟨hB, g0, g1⟩ := two_boxes w r.arr s.arr 88 88
  generalize (w.alloc (.cells r.arr 88)).alloc (.cells s.arr 88) = w1 at *
  have hl := lt_of_obj g0
  have hl1 := lt_of_obj g1
  have hR0 := range_block g0
  have hK0 := range_block g1
  generalize hb : w.heap.size = b at *
  have HB := Lib.hid (And.intro hb hB)
  have HC : Hid (∀ w', Below w1.heap.size w1 w' → w'.rangeAt b 0 r.cs ∧ w'.rangeAt (b + 1) 0 s.cs) := fun w' hB' => ⟨range_below hR0 hl hB', range_below hK0 hl1 hB'⟩
  have HU := Lib.hid (covers_odd r s)
  clear hb hB g0 g1 hR0 hK0
  go_cut [26] (fun v w' => v = .bool (odd4 r s) ∧ w' = w1)
  case first =>
    obtain ⟨hR2, hK2⟩ := HC.out w1 (Below.refl _ _)
    have k0 := Ru.c0 hR2
    have k1 := Ru.c1 hR2
    have k2 := Ru.c0 hK2
    have k3 := Ru.c1 hK2
    clear hR2 hK2
    have hv : r.ver = 0 ∨ (¬ r.ver = 0 ∧ r.ver = s.ver) ∨ (¬ r.ver = 0 ∧ ¬ r.ver = s.ver) := by omega
    have hp : r.proto < 0 ∨ (0 ≤ r.proto ∧ r.proto = s.proto) ∨ (0 ≤ r.proto ∧ ¬ r.proto = s.proto) := by omega
    have HD : Hid (odd4 r s = ((!decide (r.ver = 0) && !decide (r.ver = s.ver)) || (decide (0 ≤ r.proto) && !decide (r.proto = s.proto)))) := rfl
    generalize r.ver = a at *
    generalize s.ver = c at *
    generalize r.proto = x at *
    generalize s.proto = y at *
    rcases hv with v0 | ⟨v0, v1⟩ | ⟨v0, v1⟩ <;> rcases hp with p1 | ⟨p1, p2⟩ | ⟨p1, p2⟩
    all_goals
      try subst v1
      try subst p2
      go_wp2_with fail
      go_meet
      case rel => exact ⟨by rw [HD.out]; first | (simp [v0, p1]; done) | (simp [v0, show ¬ 0 ≤ x by omega]; done) | (simp [v0, v1]; done) | (simp [v0, p1, p2]; done), rfl⟩
  case rest =>
    obtain ⟨rfl, rfl⟩ := hcut
    obtain ⟨w1, rfl⟩ : ∃ wo : World, wo = wc := ⟨_, rfl⟩
    cases hb4 : odd4 r s with
    | true =>
      have HF : Hid (r.covers s = false) := by show _ = _; rw [HU.out, hb4]; rfl
      clear hb4
      go_wp2_with fail
      go_ret
      exact ⟨by rw [HF.out]; rfl, by rw [HB.out.1]; exact HB.out.2⟩
    | false =>
      have HF : Hid (r.covers s = (prefixedB r.src s.src && prefixedB r.dst s.dst && decide (r.slo ≤ s.slo) && decide (s.shi ≤ r.shi) && decide (r.dlo ≤ s.dlo) && decide (s.dhi ≤ r.dhi))) := by show _ = _; rw [HU.out, hb4]; rfl
      clear hb4 HU
      have HL : Hid (∀ w', Below w1.heap.size w1 w' → (loadRow 86 (.pointer (some ⟨b, 2, none⟩))).run Try.prog w' = .ok (.agg r.src.arr) w' ∧ (loadRow 86 (.pointer (some ⟨b, 20, none⟩))).run Try.prog w' = .ok (.agg r.dst.arr) w' ∧ (loadRow 86 (.pointer (some ⟨b + 1, 2, none⟩))).run Try.prog w' = .ok (.agg s.src.arr) w' ∧ (loadRow 86 (.pointer (some ⟨b + 1, 20, none⟩))).run Try.prog w' = .ok (.agg s.dst.arr) w') := fun w' h =>
        ⟨row_rp hr.s (Ru.rSrc (HC.out w' h).1), row_rp hr.d (Ru.rDst hr (HC.out w' h).1), row_rp hs.s (Ru.rSrc (HC.out w' h).2), row_rp hs.d (Ru.rDst hs (HC.out w' h).2)⟩
      obtain ⟨l1, l2, l3, l4⟩ := HL.out w1 (Below.refl _ _)
      go_wp2_with fail
      refine (rholds_is hr.s hs.s _).mono ?_
      rintro e w3 ⟨rfl, hB3⟩
      have HB3 := Lib.hid hB3
      clear l1 l2 l3 l4
      obtain ⟨l1, l2, l3, l4⟩ := HL.out w3 hB3
      clear hB3
      cases h1 : prefixedB r.src s.src
      · rw [h1] at HF
        clear h1
        go_wp2_with fail
        go_ret
        exact ⟨by rw [HF.out]; rfl, by rw [HB.out.1]; exact HB.out.2.trans (HB3.out.mono (by omega))⟩
      · rw [h1] at HF
        clear h1
        go_wp2_with fail
        refine (rholds_is hr.d hs.d _).mono ?_
        rintro e w4 ⟨rfl, hB4⟩
        have hB4' := HB3.out.trans (hB4.mono HB3.out.size)
        have HB4 := Lib.hid hB4'
        clear l1 l2 l3 l4 hB4
        obtain ⟨hR2, hK2⟩ := HC.out w4 hB4'
        clear hB4'
        have c38 := Ru.c38 hr hR2
        have c39 := Ru.c39 hr hR2
        have c40 := Ru.c40 hr hR2
        have c41 := Ru.c41 hr hR2
        have d38 := Ru.c38 hs hK2
        have d39 := Ru.c39 hs hK2
        have d40 := Ru.c40 hs hK2
        have d41 := Ru.c41 hs hK2
        clear hR2 hK2
        cases h2 : prefixedB r.dst s.dst
        · rw [h2] at HF
          clear h2
          go_wp2_with fail
          go_ret
          exact ⟨by rw [HF.out]; rfl, by rw [HB.out.1]; exact HB.out.2.trans (HB4.out.mono (by omega))⟩
        · rw [h2] at HF
          clear h2
          have hcc : (¬ r.slo ≤ s.slo) ∨ (r.slo ≤ s.slo ∧ ¬ s.shi ≤ r.shi) ∨ (r.slo ≤ s.slo ∧ s.shi ≤ r.shi ∧ ¬ r.dlo ≤ s.dlo) ∨ (r.slo ≤ s.slo ∧ s.shi ≤ r.shi ∧ r.dlo ≤ s.dlo ∧ ¬ s.dhi ≤ r.dhi) ∨ (r.slo ≤ s.slo ∧ s.shi ≤ r.shi ∧ r.dlo ≤ s.dlo ∧ s.dhi ≤ r.dhi) := by omega
          rcases hcc with p1 | ⟨p1, p2⟩ | ⟨p1, p2, p3⟩ | ⟨p1, p2, p3, p4⟩ | ⟨p1, p2, p3, p4⟩
          all_goals
            go_wp2_with fail
            go_ret
            exact ⟨by rw [HF.out]; first | (simp [p1]; done) | (simp [p1, p2]; done) | (simp [p1, p2, p3]; done) | (simp [p1, p2, p3, p4]; done), by rw [HB.out.1]; exact HB.out.2.trans (HB4.out.mono (by omega))⟩
end Go.Proofs.Ytcbkcalemfminaa

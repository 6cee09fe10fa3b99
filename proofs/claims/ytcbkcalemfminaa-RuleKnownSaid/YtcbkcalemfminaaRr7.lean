/- The reference's rules: right, fits: walked. -/
import Derived.Test.YtcbkcalemfminaaRr6
import Derived.Test.YtcbkcalemfminaaRuf
namespace Go.Proofs.Ytcbkcalemfminaa
open Go.RowKit
attribute [local go_sem ↓] load_ra load_rp build_ra build_rp

set_option maxRecDepth 100000 in
theorem rholds_is {p q : Pf} (hp : p.a.Ok) (hq : q.a.Ok) (w : World) :
    Calls Try.prog 74 #[.agg p.arr, .agg q.arr] w fun e w' => e = .returned (.bool (prefixedB p q)) ∧ Below w.heap.size w w' := by
  go_enter Try.func74, Try.ntmps74
  go_upto_region 1 with (fail)
  obtain ⟨hB, g0, g1⟩ := two_boxes w p.arr q.arr 86 86
  generalize (w.alloc (.cells p.arr 86)).alloc (.cells q.arr 86) = w1 at *
  have hl := lt_of_obj g0
  have hl1 := lt_of_obj g1
  have hr := range_block g0
  have hr1 := range_block g1
  generalize hb : w.heap.size = b at *
  have HB := Lib.hid (And.intro hb hB)
  have HC : Hid (∀ w', Below w1.heap.size w1 w' → (loadRow 86 (.pointer (some ⟨b, 0, none⟩))).run Try.prog w' = .ok (.agg p.arr) w' ∧ (loadRow 86 (.pointer (some ⟨b + 1, 0, none⟩))).run Try.prog w' = .ok (.agg q.arr) w') := fun w' hB' =>
    ⟨row_rp hp (range_below hr hl hB'), row_rp hq (range_below hr1 hl1 hB')⟩
  clear hb hB g0 g1 hr hr1
  obtain ⟨k0, _⟩ := HC.out w1 (Below.refl _ _)
  have HU : Hid (prefixedB p q = (p.isNone || (!q.isNone && q.within p))) := rfl
  go_wp2_with fail
  refine (rnone_is hp _).mono ?_
  rintro e w2 ⟨rfl, hB2⟩
  have HB2 := Lib.hid hB2
  clear k0
  obtain ⟨k0, k1⟩ := HC.out w2 hB2
  clear hB2
  cases h1 : p.isNone
  · have H1 := Lib.hid h1
    clear h1
    go_wp2_with fail
    refine (rnone_is hq _).mono ?_
    rintro e w3 ⟨rfl, hB3⟩
    have hB3' := HB2.out.trans (hB3.mono HB2.out.size)
    have HB3 := Lib.hid hB3'
    clear k0 k1
    obtain ⟨k0, k1⟩ := HC.out w3 hB3'
    clear hB3 hB3'
    cases h2 : q.isNone
    · have H2 := Lib.hid h2
      clear h2
      go_wp2_with fail
      refine (rwithin_is hq hp _).mono ?_
      rintro e w4 ⟨rfl, hB4⟩
      have HB4 := Lib.hid (HB3.out.trans (hB4.mono HB3.out.size))
      clear hB4 k0 k1
      go_wp2_with fail
      go_ret
      exact ⟨by rw [HU.out, H1.out, H2.out]; rfl, by rw [HB.out.1]; exact HB.out.2.trans (HB4.out.mono (by omega))⟩
    · have H2 := Lib.hid h2
      clear h2
      go_wp2_with fail
      go_ret
      exact ⟨by rw [HU.out, H1.out, H2.out]; rfl, by rw [HB.out.1]; exact HB.out.2.trans (HB3.out.mono (by omega))⟩
  · have H1 := Lib.hid h1
    clear h1
    go_wp2_with fail
    go_ret
    exact ⟨by rw [HU.out, H1.out]; rfl, by rw [HB.out.1]; exact HB.out.2.trans (HB2.out.mono (by omega))⟩

theorem suits_bad {v : Int} (p : Pf) (hv : v = 0 ∨ v = 4 ∨ v = 6) : suitsB v p = !pfBad v p := by
  unfold suitsB pfBad Ad.ver
  cases p.right <;> cases p.isNone <;> cases p.a.six <;> rcases hv with rfl | rfl | rfl <;> simp
/-- Whether the first question of Right is answered so. -/
def bad3 (r : Ru) : Bool := bad1 r.ver r.proto || !suitsB r.ver r.src || !suitsB r.ver r.dst
theorem right_bad3 (r : Ru) : r.right = (!bad3 r && (decide (r.slo ≤ r.shi) && decide (r.dlo ≤ r.dhi)) && decide (0 ≤ r.cls) && decide (r.cls < 8) && (!r.deny || decide (r.cls = 0))) := by
  unfold Ru.right bad3
  cases h : bad1 r.ver r.proto
  · have hv : r.ver = 0 ∨ r.ver = 4 ∨ r.ver = 6 := by
      simp [bad1] at h
      omega
    rw [suits_bad _ hv, suits_bad _ hv]
    simp
  · simp

set_option maxRecDepth 100000 in
set_option maxHeartbeats 2000000 in
theorem r9right_is {r : Ru} (hr : r.Ok) (w : World) :
    Calls Try.prog 41 #[.agg r.arr] w fun e w' => e = .returned (.bool r.right) ∧ Below w.heap.size w w' := by
  go_enter Try.func41, Try.ntmps41
  go_upto_region 1 with (fail)
  obtain ⟨hB, g0⟩ := one_box w r.arr 88
  generalize w.alloc (.cells r.arr 88) = w1 at *
  have hl := lt_of_obj g0
  have hR := range_block g0
  generalize hb : w.heap.size = b at *
  have HB := Lib.hid (And.intro hb hB)
  have HC : Hid (∀ w', Below w1.heap.size w1 w' → w'.rangeAt b 0 r.cs) := fun w' hB' => range_below hR hl hB'
  clear hb hB g0 hR
  have k0 := Ru.c0 (HC.out w1 (Below.refl _ _))
  have k1 := Ru.c1 (HC.out w1 (Below.refl _ _))
  go_cut [41] (fun v w' => v = .bool (bad3 r) ∧ Below w1.heap.size w1 w')
  case first =>
    have hv : (¬ r.ver = 0 ∧ ¬ r.ver = 4 ∧ ¬ r.ver = 6) ∨ r.ver = 0 ∨ r.ver = 4 ∨ r.ver = 6 := by omega
    have hp : r.proto < -1 ∨ (¬ r.proto < -1 ∧ 255 < r.proto) ∨ (¬ r.proto < -1 ∧ ¬ 255 < r.proto) := by omega
    have HU : Hid (bad3 r = (bad1 r.ver r.proto || !suitsB r.ver r.src || !suitsB r.ver r.dst)) := rfl
    have HV : Hid (bad1 r.ver r.proto = ((decide (r.ver ≠ 0) && decide (r.ver ≠ 4) && decide (r.ver ≠ 6)) || decide (r.proto < -1) || decide (255 < r.proto))) := rfl
    have HL : Hid (∀ w', Below w1.heap.size w1 w' → (loadRow 86 (.pointer (some ⟨b, 2, none⟩))).run Try.prog w' = .ok (.agg r.src.arr) w' ∧ (loadRow 86 (.pointer (some ⟨b, 20, none⟩))).run Try.prog w' = .ok (.agg r.dst.arr) w' ∧ w'.cell? ⟨b, 0, none⟩ = some (.int .i64 r.ver)) := fun w' h =>
      ⟨row_rp hr.s (Ru.rSrc (HC.out w' h)), row_rp hr.d (Ru.rDst hr (HC.out w' h)), Ru.c0 (HC.out w' h)⟩
    rcases hv with ⟨v0, v4, v6⟩ | hv
    · have HF : Hid (bad3 r = true) := by show _ = _; rw [HU.out, HV.out]; simp [v0, v4, v6]
      clear hp
      go_wp2_with fail
      go_meet
      case rel => exact ⟨by rw [HF.out], Below.refl _ _⟩
    · have hv0 : (decide (r.ver ≠ 0) && decide (r.ver ≠ 4) && decide (r.ver ≠ 6)) = false := by simp; omega
      have HV2 : Hid (bad1 r.ver r.proto = (decide (r.proto < -1) || decide (255 < r.proto))) := by show _ = _; rw [HV.out, hv0]; rfl
      clear hv0
      rcases hp with p1 | ⟨p1, p2⟩ | ⟨p1, p2⟩
      · have HF : Hid (bad3 r = true) := by show _ = _; rw [HU.out, HV2.out]; simp [p1]
        rcases hv with v0 | v0 | v0
        all_goals
          go_wp2_with fail
          go_meet
          case rel => exact ⟨by rw [HF.out], Below.refl _ _⟩
      · have HF : Hid (bad3 r = true) := by show _ = _; rw [HU.out, HV2.out]; simp [p2]
        rcases hv with v0 | v0 | v0
        all_goals
          go_wp2_with fail
          go_meet
          case rel => exact ⟨by rw [HF.out], Below.refl _ _⟩
      · have HF : Hid (bad3 r = (!suitsB r.ver r.src || !suitsB r.ver r.dst)) := by show _ = _; rw [HU.out, HV2.out]; simp [p1, p2]
        obtain ⟨l1, _, _⟩ := HL.out w1 (Below.refl _ _)
        rcases hv with v0 | v0 | v0
        · rw [v0] at HF
          go_wp2_with fail
          refine (rsuits_is hr.s _ _).mono ?_
          rintro e w2 ⟨rfl, hB2⟩
          have HB2 := Lib.hid hB2
          clear k0 k1 l1
          obtain ⟨_, l2, k0⟩ := HL.out w2 hB2
          clear hB2
          cases h1 : suitsB 0 r.src
          · rw [h1] at HF
            clear h1
            go_wp2_with fail
            go_meet
            case rel => exact ⟨by rw [HF.out]; rfl, HB2.out⟩
          · rw [h1] at HF
            clear h1
            go_wp2_with fail
            refine (rsuits_is hr.d _ _).mono ?_
            rintro e w3 ⟨rfl, hB3⟩
            have HB3 := Lib.hid (HB2.out.trans (hB3.mono HB2.out.size))
            clear hB3 l2 k0
            have HG2 : Hid (bad3 r = !suitsB 0 r.dst) := HF
            clear HF
            generalize suitsB 0 r.dst = sb at *
            go_wp2_with fail
            go_meet
            case rel => exact ⟨by rw [HG2.out], HB3.out⟩
        · rw [v0] at HF
          go_wp2_with fail
          refine (rsuits_is hr.s _ _).mono ?_
          rintro e w2 ⟨rfl, hB2⟩
          have HB2 := Lib.hid hB2
          clear k0 k1 l1
          obtain ⟨_, l2, k0⟩ := HL.out w2 hB2
          clear hB2
          cases h1 : suitsB 4 r.src
          · rw [h1] at HF
            clear h1
            go_wp2_with fail
            go_meet
            case rel => exact ⟨by rw [HF.out]; rfl, HB2.out⟩
          · rw [h1] at HF
            clear h1
            go_wp2_with fail
            refine (rsuits_is hr.d _ _).mono ?_
            rintro e w3 ⟨rfl, hB3⟩
            have HB3 := Lib.hid (HB2.out.trans (hB3.mono HB2.out.size))
            clear hB3 l2 k0
            have HG2 : Hid (bad3 r = !suitsB 4 r.dst) := HF
            clear HF
            generalize suitsB 4 r.dst = sb at *
            go_wp2_with fail
            go_meet
            case rel => exact ⟨by rw [HG2.out], HB3.out⟩
        · rw [v0] at HF
          go_wp2_with fail
          refine (rsuits_is hr.s _ _).mono ?_
          rintro e w2 ⟨rfl, hB2⟩
          have HB2 := Lib.hid hB2
          clear k0 k1 l1
          obtain ⟨_, l2, k0⟩ := HL.out w2 hB2
          clear hB2
          cases h1 : suitsB 6 r.src
          · rw [h1] at HF
            clear h1
            go_wp2_with fail
            go_meet
            case rel => exact ⟨by rw [HF.out]; rfl, HB2.out⟩
          · rw [h1] at HF
            clear h1
            go_wp2_with fail
            refine (rsuits_is hr.d _ _).mono ?_
            rintro e w3 ⟨rfl, hB3⟩
            have HB3 := Lib.hid (HB2.out.trans (hB3.mono HB2.out.size))
            clear hB3 l2 k0
            have HG2 : Hid (bad3 r = !suitsB 6 r.dst) := HF
            clear HF
            generalize suitsB 6 r.dst = sb at *
            go_wp2_with fail
            go_meet
            case rel => exact ⟨by rw [HG2.out], HB3.out⟩
  case rest =>
    obtain ⟨rfl, hBc⟩ := hcut
    obtain ⟨w2, rfl⟩ : ∃ wo : World, wo = wc := ⟨_, rfl⟩
    clear k0 k1
    have HB2 := Lib.hid (HB.out.2.trans (hBc.mono (by omega)))
    have hR2 := HC.out w2 hBc
    have HU := Lib.hid (right_bad3 r)
    have c38 := Ru.c38 hr hR2
    have c39 := Ru.c39 hr hR2
    have c40 := Ru.c40 hr hR2
    have c41 := Ru.c41 hr hR2
    have c42 := Ru.c42 hr hR2
    have c43 := Ru.c43 hr hR2
    clear hBc hR2 HC
    cases hb3 : bad3 r with
    | true =>
      have HF : Hid (r.right = false) := by show _ = _; rw [HU.out, hb3]; rfl
      clear hb3 c38 c39 c40 c41 c42 c43
      go_wp2_with fail
      go_ret
      exact ⟨by rw [HF.out]; rfl, by rw [HB.out.1]; exact HB2.out⟩
    | false =>
      have HF : Hid (r.right = ((decide (r.slo ≤ r.shi) && decide (r.dlo ≤ r.dhi)) && decide (0 ≤ r.cls) && decide (r.cls < 8) && (!r.deny || decide (r.cls = 0)))) := by show _ = _; rw [HU.out, hb3]; rfl
      clear hb3 HU
      have hp : ((r.slo ≤ r.shi) ∧ r.dlo ≤ r.dhi) ∨ (r.slo ≤ r.shi ∧ ¬ r.dlo ≤ r.dhi) ∨ ¬ r.slo ≤ r.shi := by omega
      have hcc : r.cls < 0 ∨ (0 ≤ r.cls ∧ ¬ r.cls < 8) ∨ (0 ≤ r.cls ∧ r.cls < 8 ∧ r.cls = 0) ∨ (0 ≤ r.cls ∧ r.cls < 8 ∧ ¬ r.cls = 0) := by omega
      generalize r.deny = dn at *
      rcases hp with ⟨p1, p2⟩ | ⟨p1, p2⟩ | p1
      · rcases hcc with h1 | ⟨h1, h2⟩ | ⟨h1, h2, h3⟩ | ⟨h1, h2, h3⟩ <;> cases dn
        all_goals
          have h8 : r.cls ≤ 7 ↔ r.cls < 8 := by omega
          go_wp2_with fail
          go_ret
          exact ⟨by rw [HF.out]; first | rfl | (simp [p1, p2, h1]; done) | (simp [p1, p2, h1, h2]; done) | (simp [p1, p2, h1, h2, h3]; done) | (simp [p1, p2, h3]; done) | (simp; omega), by rw [HB.out.1]; exact HB2.out⟩
      all_goals
        clear hcc
        go_wp2_with fail
        go_ret
        exact ⟨by rw [HF.out]; first | (simp [p1]; done) | (simp [p1, p2]; done), by rw [HB.out.1]; exact HB2.out⟩
end Go.Proofs.Ytcbkcalemfminaa

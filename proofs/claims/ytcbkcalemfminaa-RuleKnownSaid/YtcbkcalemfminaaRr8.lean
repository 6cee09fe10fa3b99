/- The reference's rules: which fit, which cover: walked. -/
import Derived.Test.YtcbkcalemfminaaRr7
import Derived.Test.YtcbkcalemfminaaRuk
namespace Go.Proofs.Ytcbkcalemfminaa
open Go.RowKit
attribute [local go_sem ↓] load_ra load_rp build_ra build_rp

theorem load_rr (p : Value) : Instr.loadAt 88 p = loadRow 88 p := by unfold loadRow; rfl
theorem row_rr {w : World} {b o : Nat} {c : Ru} (hc : c.Ok) (h : w.rangeAt b o c.cs) : (loadRow 88 (.pointer (some ⟨b, o, none⟩))).run Try.prog w = .ok (.agg c.arr) w := by
  unfold loadRow
  exact run_loadAt_mid w b o _ c.cs _ h Try.underlying88 rfl (by rw [hc.len]; kernel_rfl)
attribute [local go_sem ↓] load_rr

/-- The first question of Fits, the second one. -/
def bad4 (r : Ru) (k : Ky) : Bool := !r.right || (decide (r.ver = 4) && k.src.six) || (decide (r.ver = 6) && !k.src.six) || (decide (0 ≤ r.proto) && !decide (r.proto = (k.proto : Int)))
def bad5 (r : Ru) (k : Ky) : Bool := (!r.src.isNone && !r.src.has k.src) || (!r.dst.isNone && !r.dst.has k.dst)
theorem right_ver {r : Ru} (h : r.right = true) : r.ver = 0 ∨ r.ver = 4 ∨ r.ver = 6 := by
  unfold Ru.right at h
  simp only [Bool.and_eq_true, Bool.not_eq_true'] at h
  have h1 := h.1.1.1.1.1.1
  simp [bad1] at h1
  omega
theorem fits_bad (r : Ru) (k : Ky) : r.fits k = (!bad4 r k && !bad5 r k && portedB r.slo r.shi k k.sp && portedB r.dlo r.dhi k k.dp) := by
  unfold Ru.fits
  rw [all6]
  unfold bad4
  cases hR : r.right
  · simp
  · have hv : ((r.ver == 0) || (r.ver == k.src.ver)) = !((decide (r.ver = 4) && k.src.six) || (decide (r.ver = 6) && !k.src.six)) := by
      unfold Ad.ver
      rcases right_ver hR with h | h | h <;> rw [h] <;> cases k.src.six <;> rfl
    have hp : (decide (r.proto < 0) || (r.proto == (k.proto : Int))) = !(decide (0 ≤ r.proto) && !decide (r.proto = (k.proto : Int))) := by
      by_cases h1 : r.proto < 0
      · have h2 : ¬ 0 ≤ r.proto := by omega
        simp [h1, h2]
      · have h2 : 0 ≤ r.proto := by omega
        simp only [h1, h2, decide_true, decide_false, Bool.true_and, Bool.not_not, Bool.false_or]
        rw [Bool.eq_iff_iff]
        simp
    have h0 : fitsP 0 r k = _ := hv
    have h1 : fitsP 1 r k = _ := hp
    rw [h0, h1]
    unfold bad5
    have h2 : fitsP 2 r k = (r.src.isNone || r.src.has k.src) := rfl
    have h3 : fitsP 3 r k = (r.dst.isNone || r.dst.has k.dst) := rfl
    have h4 : fitsP 4 r k = portedB r.slo r.shi k k.sp := rfl
    have h5 : fitsP 5 r k = portedB r.dlo r.dhi k k.dp := rfl
    rw [h2, h3, h4, h5]
    generalize (decide (r.ver = 4) && k.src.six) = x1
    generalize (decide (r.ver = 6) && !k.src.six) = x2
    generalize (decide (0 ≤ r.proto) && !decide (r.proto = (k.proto : Int))) = x3
    generalize portedB r.slo r.shi k k.sp = x4
    generalize portedB r.dlo r.dhi k k.dp = x5
    generalize r.src.isNone = x6
    generalize r.dst.isNone = x7
    generalize r.src.has k.src = x8
    generalize r.dst.has k.dst = x9
    cases x1 <;> cases x2 <;> cases x3 <;> cases x6 <;> cases x7 <;> cases x8 <;> cases x9 <;> simp

set_option maxRecDepth 100000 in
set_option maxHeartbeats 2000000 in
theorem r9fits_is {r : Ru} {k : Ky} (hr : r.Ok) (hk : k.Ok) (w : World) :
    Calls Try.prog 42 #[.agg r.arr, .agg k.arr] w fun e w' => e = .returned (.bool (r.fits k)) ∧ Below w.heap.size w w' := by
  go_enter Try.func42, Try.ntmps42
  go_upto_region 1 with (fail)
  obtain ⟨hB, g0, g1⟩ := two_boxes w r.arr k.arr 88 79
  generalize (w.alloc (.cells r.arr 88)).alloc (.cells k.arr 79) = w1 at *
  have hl := lt_of_obj g0
  have hl1 := lt_of_obj g1
  have hR0 := range_block g0
  have hK0 := range_block g1
  generalize hb : w.heap.size = b at *
  have HB := Lib.hid (And.intro hb hB)
  have HC : Hid (∀ w', Below w1.heap.size w1 w' → w'.rangeAt b 0 r.cs ∧ w'.rangeAt (b + 1) 0 k.cs) := fun w' hB' => ⟨range_below hR0 hl hB', range_below hK0 hl1 hB'⟩
  have HU := Lib.hid (fits_bad r k)
  clear hb hB g0 g1 hR0 hK0
  have l0 := row_rr hr (HC.out w1 (Below.refl _ _)).1
  go_cut [41] (fun v w' => v = .bool (bad4 r k) ∧ Below w1.heap.size w1 w')
  case first =>
    go_wp2_with fail
    refine (r9right_is hr _).mono ?_
    rintro e w2 ⟨rfl, hB2⟩
    have HB2 := Lib.hid hB2
    clear l0
    obtain ⟨hR2, hK2⟩ := HC.out w2 hB2
    have k0 := Ru.c0 hR2
    have k1 := Ru.c1 hR2
    have k3 := Ad.cSix (Ky.rSrc hK2)
    have k4 := Ky.c34 hk hK2
    clear hB2 hR2 hK2
    have HD : Hid (bad4 r k = (!r.right || (decide (r.ver = 4) && k.src.six) || (decide (r.ver = 6) && !k.src.six) || (decide (0 ≤ r.proto) && !decide (r.proto = (k.proto : Int))))) := rfl
    cases hR : r.right
    · rw [hR] at HD
      clear hR
      go_wp2_with fail
      go_meet
      case rel => exact ⟨by rw [HD.out]; rfl, HB2.out⟩
    · have hv := right_ver hR
      rw [hR] at HD
      have h8 := hk.p
      have hp : r.proto < 0 ∨ (0 ≤ r.proto ∧ r.proto = (k.proto : Int)) ∨ (0 ≤ r.proto ∧ ¬ r.proto = (k.proto : Int)) := by omega
      have hi : IntKind.i64.wrap (k.proto : Int) = (k.proto : Int) := IntWalk.i64_in _ (by omega)
      clear hR
      generalize k.src.six = s at *
      rcases hv with v0 | v0 | v0 <;> rcases hp with p1 | ⟨p1, p2⟩ | ⟨p1, p2⟩ <;> cases s
      all_goals
        go_wp2_with fail
        go_meet
        case rel => exact ⟨by rw [HD.out]; first | (simp [v0, p1]; done) | (simp [v0, show ¬ 0 ≤ r.proto by omega]; done) | (simp [v0, p1, p2]; done), HB2.out⟩
  case rest =>
    obtain ⟨rfl, hBc⟩ := hcut
    obtain ⟨w2, rfl⟩ : ∃ wo : World, wo = wc := ⟨_, rfl⟩
    have HB2 := Lib.hid hBc
    clear hBc l0
    cases hb4 : bad4 r k with
    | true =>
      have HF : Hid (r.fits k = false) := by show _ = _; rw [HU.out, hb4]; rfl
      clear hb4
      go_wp2_with fail
      go_ret
      exact ⟨by rw [HF.out]; rfl, by rw [HB.out.1]; exact HB.out.2.trans (HB2.out.mono (by omega))⟩
    | false =>
      have HF : Hid (r.fits k = (!bad5 r k && portedB r.slo r.shi k k.sp && portedB r.dlo r.dhi k k.dp)) := by show _ = _; rw [HU.out, hb4]; rfl
      clear hb4 HU
      have HL : Hid (∀ w', Below w1.heap.size w1 w' → (loadRow 86 (.pointer (some ⟨b, 2, none⟩))).run Try.prog w' = .ok (.agg r.src.arr) w' ∧ (loadRow 86 (.pointer (some ⟨b, 20, none⟩))).run Try.prog w' = .ok (.agg r.dst.arr) w' ∧ (loadRow 77 (.pointer (some ⟨b + 1, 0, none⟩))).run Try.prog w' = .ok (.agg k.src.arr) w' ∧ (loadRow 77 (.pointer (some ⟨b + 1, 17, none⟩))).run Try.prog w' = .ok (.agg k.dst.arr) w') := fun w' h =>
        ⟨row_rp hr.s (Ru.rSrc (HC.out w' h).1), row_rp hr.d (Ru.rDst hr (HC.out w' h).1), row_ra hk.s (Ky.rSrc (HC.out w' h).2), row_ra hk.d (Ky.rDst hk (HC.out w' h).2)⟩
      go_upto_region 3 with (fail)
      go_cut [67] (fun v w' => v = .bool (bad5 r k) ∧ Below w1.heap.size w1 w')
      case first =>
        have HV : Hid (bad5 r k = ((!r.src.isNone && !r.src.has k.src) || (!r.dst.isNone && !r.dst.has k.dst))) := rfl
        obtain ⟨l1, l2, l3, l4⟩ := HL.out w2 HB2.out
        go_wp2_with fail
        refine (rnone_is hr.s _).mono ?_
        rintro e w3 ⟨rfl, hB3⟩
        have hB3' := HB2.out.trans (hB3.mono HB2.out.size)
        have HB3 := Lib.hid hB3'
        clear l1 l2 l3 l4
        obtain ⟨l1, l2, l3, l4⟩ := HL.out w3 hB3'
        clear hB3 hB3'
        cases h1 : r.src.isNone
        · rw [h1] at HV
          clear h1
          go_wp2_with fail
          refine (rhas_is hr.s hk.s _).mono ?_
          rintro e w4 ⟨rfl, hB4⟩
          have hB4' := HB3.out.trans (hB4.mono HB3.out.size)
          have HB4 := Lib.hid hB4'
          clear l1 l2 l3 l4
          obtain ⟨l1, l2, l3, l4⟩ := HL.out w4 hB4'
          clear hB4 hB4'
          cases h2 : r.src.has k.src
          · rw [h2] at HV
            clear h2
            go_wp2_with fail
            go_meet
            case rel => exact ⟨by rw [HV.out]; rfl, HB4.out⟩
          · rw [h2] at HV
            clear h2
            go_wp2_with fail
            refine (rnone_is hr.d _).mono ?_
            rintro e w5 ⟨rfl, hB5⟩
            have hB5' := HB4.out.trans (hB5.mono HB4.out.size)
            have HB5 := Lib.hid hB5'
            clear l1 l2 l3 l4
            obtain ⟨l1, l2, l3, l4⟩ := HL.out w5 hB5'
            clear hB5 hB5'
            cases h3 : r.dst.isNone
            · rw [h3] at HV
              clear h3
              go_wp2_with fail
              refine (rhas_is hr.d hk.d _).mono ?_
              rintro e w6 ⟨rfl, hB6⟩
              have HB6 := Lib.hid (HB5.out.trans (hB6.mono HB5.out.size))
              clear hB6 l1 l2 l3 l4
              have HV2 : Hid (bad5 r k = !r.dst.has k.dst) := HV
              clear HV
              generalize r.dst.has k.dst = sb at *
              go_wp2_with fail
              go_meet
              case rel => exact ⟨by rw [HV2.out], HB6.out⟩
            · rw [h3] at HV
              clear h3
              go_wp2_with fail
              go_meet
              case rel => exact ⟨by rw [HV.out]; rfl, HB5.out⟩
        · rw [h1] at HV
          clear h1
          go_wp2_with fail
          refine (rnone_is hr.d _).mono ?_
          rintro e w5 ⟨rfl, hB5⟩
          have hB5' := HB3.out.trans (hB5.mono HB3.out.size)
          have HB5 := Lib.hid hB5'
          clear l1 l2 l3 l4
          obtain ⟨l1, l2, l3, l4⟩ := HL.out w5 hB5'
          clear hB5 hB5'
          cases h3 : r.dst.isNone
          · rw [h3] at HV
            clear h3
            go_wp2_with fail
            refine (rhas_is hr.d hk.d _).mono ?_
            rintro e w6 ⟨rfl, hB6⟩
            have HB6 := Lib.hid (HB5.out.trans (hB6.mono HB5.out.size))
            clear hB6 l1 l2 l3 l4
            have HV2 : Hid (bad5 r k = !r.dst.has k.dst) := HV
            clear HV
            generalize r.dst.has k.dst = sb at *
            go_wp2_with fail
            go_meet
            case rel => exact ⟨by rw [HV2.out], HB6.out⟩
          · rw [h3] at HV
            clear h3
            go_wp2_with fail
            go_meet
            case rel => exact ⟨by rw [HV.out]; rfl, HB5.out⟩
      case rest =>
        obtain ⟨rfl, hBc⟩ := hcut
        obtain ⟨w3, rfl⟩ : ∃ wo : World, wo = wc := ⟨_, rfl⟩
        have HB3 := Lib.hid hBc
        clear hBc HL
        cases hb5 : bad5 r k with
        | true =>
          rw [hb5] at HF
          clear hb5
          go_wp2_with fail
          go_ret
          exact ⟨by rw [HF.out]; rfl, by rw [HB.out.1]; exact HB.out.2.trans (HB3.out.mono (by omega))⟩
        | false =>
          have HG : Hid (r.fits k = (portedB r.slo r.shi k k.sp && portedB r.dlo r.dhi k k.dp)) := by show _ = _; rw [HF.out, hb5]; rfl
          clear hb5 HF
          obtain ⟨hR3, hK3⟩ := HC.out w3 HB3.out
          have c38 := Ru.c38 hr hR3
          have c39 := Ru.c39 hr hR3
          have c40 := Ru.c40 hr hR3
          have c41 := Ru.c41 hr hR3
          have c34 := Ky.c34 hk hK3
          have c35 := Ky.c35 hk hK3
          have c36 := Ky.c36 hk hK3
          clear hR3 hK3
          go_wp2_with fail
          refine (rports_is r.slo r.shi k.sp k _).mono ?_
          rintro e w4 ⟨rfl, rfl⟩
          cases h1 : portedB r.slo r.shi k k.sp
          · rw [h1] at HG
            clear h1
            go_wp2_with fail
            go_ret
            exact ⟨by rw [HG.out]; rfl, by rw [HB.out.1]; exact HB.out.2.trans (HB3.out.mono (by omega))⟩
          · rw [h1] at HG
            clear h1
            go_wp2_with fail
            refine (rports_is r.dlo r.dhi k.dp k _).mono ?_
            rintro e w5 ⟨rfl, rfl⟩
            go_wp2_with fail
            go_ret
            exact ⟨by rw [HG.out]; rfl, by rw [HB.out.1]; exact HB.out.2.trans (HB3.out.mono (by omega))⟩
end Go.Proofs.Ytcbkcalemfminaa

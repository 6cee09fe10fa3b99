/- FifoKnown, walked. -/
import Derived.Test.YtpnhdfingcfbnaaFk1
import Derived.Outline
namespace Go.Proofs.Ytpnhdfingcfbnaa
open Go.RowKit

set_option maxRecDepth 100000 in
set_option maxHeartbeats 4000000 in
theorem known_any (w : World) :
    Calls Try.prog 6 #[] w fun e w' => e = .returned (.bool true) ∧ Below w.heap.size w w' := by
  obtain ⟨i0, hi, hz0, hz1, hz2⟩ := info_parts info_act
  have HI := Lib.hid (And.intro hi (And.intro hz0 (And.intro hz1 hz2)))
  clear hi hz0 hz1 hz2
  go_enter Try.func6, Try.ntmps6
  go_wp2_with fail
  go_loopw [1] (BRel w) (fun i _ => 50 - (intOf i).toNat)
  case atStart => exact ⟨0, rfl, Nat.zero_le _, Below.refl _ _⟩
  case round =>
    obtain ⟨i, rfl, hi50, hB⟩ := hrel
    have HB := Lib.hid hB
    clear hB
    by_cases hlt : i < 50
    · obtain ⟨wo, rfl⟩ : ∃ wo : World, wo = wr := ⟨_, rfl⟩
      have d50 : decide ((i : Int) < 50) = true := by simp; omega
      go_wp2_with fail
      go_loopw [3, 4, 2] (MRel wo) (fun _ n _ _ => 60 - (intOf n).toNat)
      case atStart => exact ⟨[], i, 0, rfl, rfl, rfl, Nat.zero_le _, by omega, Below.refl _ _, World.ownsRow_nil _ _ _ _, fun A h => by simp at h⟩
      case round =>
        obtain ⟨l, k, n, rfl, rfl, hln, hn, hk, hA⟩ := hrel
        by_cases hn6 : n < 60
        · obtain ⟨la, lc, ev⟩ := own_shape hA.row
          subst ev
          have HA := Lib.hid hA
          have HLN := Lib.hid hln
          have hll : l.length < 60 := by omega
          clear hA hln
          obtain ⟨hi, hz0, hz1, hz2⟩ := HI.out
          go_wp2_with (first | (at_builtin; refine wpList_append_own _ rfl (.tmp 15) (.tmp 34) _ rfl wo.heap.size 39 i0 (.agg #[.int .i64 0, .int .u64 0, .int .i64 0, .slice none 0 0]) 4 48 Try.underlying22 hi hz0 hz1 hz2 rfl (by decide) (.slice la l.length lc) l.length (aCells l) rfl ?_ ⟨wr.heap.size + 1, 0, none⟩ 1 1 [.int .i64 ((k : Int) % 8), .int .u64 ((k : Int) % 40), .int .i64 ((k : Int) / 8 % 14 - 1), .slice (some ⟨wr.heap.size, 0, none⟩) (k % 4 % 3) 3] rfl rfl ?_ ?_ ?_ ?_ ?_ ?_))
          · exact (HA.out.row.alloc _).alloc _
          · have := four_new (wr.alloc (.cells #[.int .u8 ((k : Int) % 256), .int .u8 2, .int .u8 3] 5)) (.int .i64 ((k : Int) % 8)) (.int .u64 ((k : Int) % 40)) (.int .i64 ((k : Int) / 8 % 14 - 1)) (.slice (some ⟨wr.heap.size, 0, none⟩) (k % 4 % 3) 3) 39
            simpa using this
          · intro u hu
            simp at hu
            rcases hu with rfl | rfl | rfl | rfl <;> rfl
          · unfold maxLen; omega
          · omega
          · have := HA.out.bel.size; simp; omega
          · intro v' w' ho hg _
            have hB2 : Below wr.heap.size wr ((wr.alloc (.cells #[.int .u8 ((k : Int) % 256), .int .u8 2, .int .u8 3] 5)).alloc (.cells #[.int .i64 ((k : Int) % 8), .int .u64 ((k : Int) % 40), .int .i64 ((k : Int) / 8 % 14 - 1), .slice (some ⟨wr.heap.size, 0, none⟩) (k % 4 % 3) 3] 39)) := ((Below.refl _ _).alloc (Nat.le_refl _) _).alloc (by simp) _
            have hb : ((wr.alloc (.cells #[.int .u8 ((k : Int) % 256), .int .u8 2, .int .u8 3] 5)).alloc (.cells #[.int .i64 ((k : Int) % 8), .int .u64 ((k : Int) % 40), .int .i64 ((k : Int) / 8 % 14 - 1), .slice (some ⟨wr.heap.size, 0, none⟩) (k % 4 % 3) 3] 39)).heap[wr.heap.size]? = some (.cells #[.int .u8 ((k : Int) % 256), .int .u8 2, .int .u8 3] 5 (0, 0)) := (alloc_block_old _ (by simp)).trans (alloc_block_new wr _)
            have hm : k % 4 % 3 ≤ 3 := by omega
            have hA2 := (HA.out.below hB2).snoc (A := ⟨(k : Int) % 8, (k : Int) % 40, (k : Int) / 8 % 14 - 1, .slice (some ⟨wr.heap.size, 0, none⟩) (k % 4 % 3) 3, ([k % 256, 2, 3] : List Nat).take (k % 4 % 3)⟩)
              ⟨holds_pre (zs := [k % 256, 2, 3]) (by simp [u8s]) hb _ 3 hm hm, fun j hj => by
                obtain rfl : wr.heap.size = j := by injection hj
                exact ⟨_, hb⟩, ⟨by show (0 : Int) ≤ (k : Int) % 40; omega, by show (k : Int) % 40 ≤ _; omega⟩, ⟨by show _ ≤ (k : Int) / 8 % 14 - 1; omega, by show (k : Int) / 8 % 14 - 1 ≤ _; omega⟩⟩ ho hg
            have HA2 := Lib.hid hA2
            clear hA2 hB2 hb ho hg hi hz0 hz1 hz2
            have e1 : ((k : Int) * 31 + 7 * (n : Int) + 11) % 100003 = ((k * 31 + 7 * n + 11) % 100003 : Nat) := by omega
            go_wp2_with fail
            go_roundw
            case rel => exact ⟨_, (k * 31 + 7 * n + 11) % 100003, n + 1, by first | rfl | exact congrArg _ e1, by go_num, by simp [HLN.out], by omega, by omega, HA2.out⟩
            case measure => simp [intOf]; omega
        · obtain rfl : n = 60 := by omega
          obtain ⟨lg, lcap, elv, hlg, _⟩ := own_slice hA.row (by omega)
          have hcap : 60 ≤ lcap := by
            rcases hA.row.2 with ⟨_, h0⟩ | ⟨g', cp', cur', hv', _, _, hnc, _⟩
            · omega
            · rw [elv] at hv'
              injection hv' with _ _ e
              omega
          subst elv
          have hI := hA.acts
          have hBo := HB.out.trans (hA.bel.mono HB.out.size)
          have HLN := Lib.hid hln
          have HII := Lib.hid hI
          have HBO := Lib.hid hBo
          clear hI hA hBo HB
          rw [hln]
          rw [hln] at HII
          clear hln
          go_wp2_with fail
          refine (plays_any _ _ (by omega) _ l wr HII.out).mono ?_
          rintro e w1 ⟨rfl, hB1⟩
          have I1 := HII.out.below hB1
          have B1 := HBO.out.trans (hB1.mono HBO.out.size)
          have HI1 := Lib.hid I1
          have HB1 := Lib.hid B1
          clear I1 B1 hB1 HII HBO
          go_wp2_with fail
          refine (order_any _ _ _ l w1 HI1.out).mono ?_
          rintro e w2 ⟨rfl, hB2⟩
          have I2 := HI1.out.below hB2
          have B2 := HB1.out.trans (hB2.mono HB1.out.size)
          have HI2 := Lib.hid I2
          have HB2 := Lib.hid B2
          clear I2 B2 hB2 HI1 HB1
          go_wp2_with fail
          refine (plays_any _ _ (by omega) _ (l.take 20) w2 (HI2.out.take 20 (by rw [HLN.out]; omega) lcap)).mono ?_
          rintro e w3 ⟨rfl, hB3⟩
          have I3 := HI2.out.below hB3
          have B3 := HB2.out.trans (hB3.mono HB2.out.size)
          obtain ⟨A, hAi⟩ : ∃ A, l[i]? = some A := ⟨_, List.getElem?_eq_getElem (by rw [HLN.out]; omega)⟩
          obtain ⟨ao, cp, e3, hx3⟩ := id I3
          obtain ⟨b3, o3, eao, hb3, hA3⟩ := hx3 (by rw [HLN.out]; omega)
          injection e3 with e3 _ _
          rw [eao] at e3
          injection e3 with e3
          injection e3 with e3 e4 _
          subst e3 e4
          have hA3 := hA3 i A hAi
          have c1 := hA3.c1
          have c2 := hA3.c2
          have c3 := hA3.c3
          obtain ⟨da, dc, ed, _⟩ := hA3.d
          have hd3 := hA3.d
          rw [ed] at c3 hd3
          simp only [Nat.zero_add] at c1 c2 c3
          have HD3 := Lib.hid hd3
          have HB3 := Lib.hid B3
          clear I3 B3 hB3 HI2 HB2 hx3 hA3 hd3 hAi ed eao
          go_wp2_with fail
          refine (none_any A.no A.size _ A.ds w3 HD3.out).mono ?_
          rintro e w4 ⟨rfl, hB4⟩
          have B4 := HB3.out.trans (hB4.mono HB3.out.size)
          have HB4 := Lib.hid B4
          clear B4 hB4 HB3 c1 c2 c3 HD3
          go_wp2_with fail
          go_roundw
          case rel => exact ⟨i + 1, by go_num, by omega, HB4.out⟩
          case measure => simp [intOf]; omega
    · have d50 : decide ((i : Int) < 50) = false := by simp; omega
      go_wp2_with fail
      have hb := alloc_block_new wr (.cells #[.int .i64 0, .int .u64 0, .int .i64 2305843009213693952, .slice none 0 0, .int .i64 0, .int .u64 0, .int .i64 2305843009213693952, .slice none 0 0, .int .i64 6, .int .u64 0, .int .i64 4611686018427387904, .slice none 0 0, .int .i64 0, .int .u64 0, .int .i64 (-9223372036854775808), .slice none 0 0] 39)
      have I0 := big_acts hb
      have B0 := HB.out.alloc HB.out.size (.cells #[.int .i64 0, .int .u64 0, .int .i64 2305843009213693952, .slice none 0 0, .int .i64 0, .int .u64 0, .int .i64 2305843009213693952, .slice none 0 0, .int .i64 6, .int .u64 0, .int .i64 4611686018427387904, .slice none 0 0, .int .i64 0, .int .u64 0, .int .i64 (-9223372036854775808), .slice none 0 0] 39)
      have HI0 := Lib.hid I0
      have HB0 := Lib.hid B0
      clear hb I0 B0 HB
      generalize wr.alloc (.cells #[.int .i64 0, .int .u64 0, .int .i64 2305843009213693952, .slice none 0 0, .int .i64 0, .int .u64 0, .int .i64 2305843009213693952, .slice none 0 0, .int .i64 6, .int .u64 0, .int .i64 4611686018427387904, .slice none 0 0, .int .i64 0, .int .u64 0, .int .i64 (-9223372036854775808), .slice none 0 0] 39) = w0 at *
      refine (plays_any 9 4611686018427387904 (by decide) _ bigL w0 HI0.out).mono ?_
      rintro e w1 ⟨rfl, hB1⟩
      have I1 := HI0.out.below hB1
      have B1 := HB0.out.trans (hB1.mono HB0.out.size)
      have HI1 := Lib.hid I1
      have HB1 := Lib.hid B1
      clear I1 B1 hB1 HI0 HB0
      go_wp2_with fail
      refine (plays_any 9 (-1) (by decide) _ [] w1 ⟨none, 0, rfl, fun h => absurd h (by simp)⟩).mono ?_
      rintro e w2 ⟨rfl, hB2⟩
      have I2 := HI1.out.below hB2
      have B2 := HB1.out.trans (hB2.mono HB1.out.size)
      have HI2 := Lib.hid I2
      have HB2 := Lib.hid B2
      clear I2 B2 hB2 HI1 HB1
      go_wp2_with fail
      refine (plays_any 9 9223372036854775807 (by decide) _ bigL w2 HI2.out).mono ?_
      rintro e w3 ⟨rfl, hB3⟩
      have B3 := HB2.out.trans (hB3.mono HB2.out.size)
      have HB3 := Lib.hid B3
      clear B3 hB3 HI2 HB2
      go_wp2_with fail
      refine (works_any w3).mono ?_
      rintro e w4 ⟨rfl, hB4⟩
      go_wp2_with fail
      go_ret
      exact ⟨rfl, HB3.out.trans (hB4.mono HB3.out.size)⟩
end Go.Proofs.Ytpnhdfingcfbnaa

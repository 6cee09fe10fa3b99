/- The document's Dead; the counts, told: walked. -/
import Derived.Test.YtcbkcalemfminaaRs3
namespace Go.Proofs.Ytcbkcalemfminaa
open Go.RowKit
attribute [local go_sem ↓] load_ad load_pf load_ru load_ky load_bs load_ra load_rp load_rr load_rk build_ra build_rp build_rr build_rk store_rp store_rr store_rk rows_rr

/-- Ahead of each rule. -/
def RD1 (W : World) (l : List Ru) (i v : Value) (w : World) : Prop :=
  ∃ k : Nat, i = .int .i64 k ∧ k ≤ l.length ∧ w.ownsRow W.heap.size 3 1 v (deadsTo l k).length (iCells (deadsTo l k)) ∧ Below W.heap.size W w
/-- Ahead of each rule before it. -/
def RD2 (W : World) (l : List Ru) (s : Ru) (k : Nat) (q g : Value) (w : World) : Prop :=
  ∃ j : Nat, q = .int .i64 j ∧ j ≤ k ∧ g = .bool ((l.take j).any fun r => r.covers s) ∧ Below W.heap.size W w
theorem any_snoc {l : List Ru} {j : Nat} {r s : Ru} (h : l[j]? = some r) : ((l.take (j + 1)).any fun r => r.covers s) = (((l.take j).any fun r => r.covers s) || r.covers s) := by
  rw [take_snoc h, List.any_append]
  simp

set_option maxRecDepth 100000 in
set_option maxHeartbeats 1000000 in
theorem rdead_is {w : World} {v : Value} {l : List Ru} (hl : Rules w v l) (hlen : l.length ≤ 1000000) :
    Calls Try.prog 38 #[v] w fun e w' => ∃ v', e = .returned v' ∧ w'.ownsRow w.heap.size 3 1 v' (deads l).length (iCells (deads l)) ∧ Below w.heap.size w w' := by
  obtain ⟨ii, hi, hz0, hz1, hz2⟩ := info_parts info_int
  have HI := Lib.hid (And.intro hi (And.intro hz0 (And.intro hz1 hz2)))
  obtain ⟨la, lc, rfl, _⟩ := id hl
  have HL := Lib.hid hl
  clear hl hi hz0 hz1 hz2
  go_enter Try.func38, Try.ntmps38
  go_wp2_with fail
  go_loopw [4, 3] (RD1 w l) (fun i _ _ => l.length - (intOf i).toNat)
  case atStart => exact ⟨0, rfl, Nat.zero_le _, World.ownsRow_nil _ _ _ _, Below.refl _ _⟩
  case round =>
    obtain ⟨k, rfl, hk, hrow, hB⟩ := hrel
    by_cases hkl : k < l.length
    · obtain ⟨s, hsk⟩ : ∃ s, l[k]? = some s := ⟨_, List.getElem?_eq_getElem hkl⟩
      obtain ⟨ra, rc, rfl⟩ := own_shape hrow
      have hki : (k : Int) < (l.length : Int) := by omega
      have HS := Lib.hid (And.intro hrow (And.intro hB hsk))
      clear hrow hB hsk
      obtain ⟨wk, rfl⟩ : ∃ wo : World, wo = wr := ⟨_, rfl⟩
      go_wp2_with fail
      go_loopw [6, 5] (RD2 wk l s k) (fun i _ _ => k - (intOf i).toNat)
      case atStart => exact ⟨0, rfl, Nat.zero_le _, rfl, Below.refl _ _⟩
      case round =>
        obtain ⟨j, rfl, hj, rfl, hBj⟩ := hrel
        by_cases hjk : j < k
        · obtain ⟨r, hrj⟩ : ∃ r, l[j]? = some r := ⟨_, List.getElem?_eq_getElem (by omega)⟩
          obtain ⟨_, _, e1, _, hrw⟩ := HL.out.below (HS.out.2.1.trans (hBj.mono HS.out.2.1.size))
          injection e1 with e1 _ e2
          subst e1
          subst e2
          obtain ⟨rb, ro, rfl, hrb, hAr⟩ := hrw (by omega)
          obtain ⟨hrok, hrr⟩ := hAr j r hrj
          obtain ⟨hsok, hsr⟩ := hAr k s HS.out.2.2
          have hji : (j : Int) < (k : Int) := by omega
          have hjl : (j : Int) < (l.length : Int) := by omega
          have HJ := Lib.hid (And.intro hBj (any_snoc (s := s) hrj))
          obtain ⟨wj, rfl⟩ : ∃ wo : World, wo = wr := ⟨_, rfl⟩
          have k0 : ∀ z : Wld (fun x => Below wj.heap.size wj x), (loadRow 88 (.pointer (some ⟨rb, ro + j * 44, none⟩))).run Try.prog z.w = .ok (.agg r.arr) z.w := fun z => row_rr hrok (range_below hrr hrb z.ok)
          have k1 : ∀ z : Wld (fun x => Below wj.heap.size wj x), (loadRow 88 (.pointer (some ⟨rb, ro + k * 44, none⟩))).run Try.prog z.w = .ok (.agg s.arr) z.w := fun z => row_rr hsok (range_below hsr hrb z.ok)
          haveI hne : Nonempty (Wld (fun x => Below wj.heap.size wj x)) := ⟨⟨wj, Below.refl _ _⟩⟩
          clear hBj hrj hAr hrr hsr
          cases hg : ((l.take j).any fun r => r.covers s) with
          | true =>
            go_upto_region 9 with (fail)
            refine region_class (fun x => Below wj.heap.size wj x) (by kernel_rfl) (by kernel_rfl) (Below.refl _ _).drew ?_
            repeat (go_big_quiet_step ((rename_i z; go_at_call 66; exact (rcovers_is hrok hsok _).mono fun e w' ⟨he, hb⟩ => ⟨he, ⟨w', z.ok.trans (hb.mono z.ok.size)⟩, rfl⟩)))
            refine wpQuiet_nil ?_
            intro w2 hB2
            have HM : Hid (RD2 wk l s k (.int .i64 (j + 1 : Nat)) (.bool true) w2) := ⟨j + 1, rfl, hjk, by rw [HJ.out.2, hg]; rfl, HJ.out.1.trans (hB2.mono HJ.out.1.size)⟩
            clear hg hB2 k0 k1 hne
            go_wp2_with fail
            go_roundw
            case rel => exact HM.out
            case measure => simp [intOf]; omega
          | false =>
            go_upto_region 9 with (fail)
            refine region_class (fun x => Below wj.heap.size wj x) (by kernel_rfl) (by kernel_rfl) (Below.refl _ _).drew ?_
            repeat (go_big_quiet_step ((rename_i z; go_at_call 66; exact (rcovers_is hrok hsok _).mono fun e w' ⟨he, hb⟩ => ⟨he, ⟨w', z.ok.trans (hb.mono z.ok.size)⟩, rfl⟩)))
            refine wpQuiet_nil ?_
            intro w2 hB2
            have HM : Hid (RD2 wk l s k (.int .i64 (j + 1 : Nat)) (.bool (r.covers s)) w2) := ⟨j + 1, rfl, hjk, by rw [HJ.out.2, hg]; rfl, HJ.out.1.trans (hB2.mono HJ.out.1.size)⟩
            clear hg hB2 k0 k1 hne
            generalize r.covers s = cv at *
            go_wp2_with fail
            go_roundw
            case rel => exact HM.out
            case measure => simp [intOf]; omega
        · obtain rfl : j = k := by omega
          have hds := deadsTo_succ l j
          rw [HS.out.2.2] at hds
          have HD := Lib.hid hds
          have row4 := own_kept HS.out.1 hBj
          have HB4 := Lib.hid (HS.out.2.1.trans (hBj.mono HS.out.2.1.size))
          clear hds hBj
          cases hg : ((l.take j).any fun r => r.covers s) with
          | true =>
            have HDS : Hid (deadsTo l (j + 1) = deadsTo l j ++ [j]) := by show _ = _; rw [HD.out, if_pos hg]
            have hdl := deadsTo_len l j
            have HR := Lib.hid row4
            obtain ⟨hi, hz0, hz1, hz2⟩ := HI.out
            have hws := HB4.out.size
            clear hg HD row4
            go_wp2_with (first | (at_builtin; refine wpList_append_own _ rfl (.tmp 31) (.tmp 33) 36 rfl w.heap.size 3 ii (.int .i64 0) 1 8 Try.underlying36 hi hz0 hz1 hz2 rfl (by decide) (.slice ra (deadsTo l j).length rc) (deadsTo l j).length (iCells (deadsTo l j)) rfl (HR.out.alloc _) ⟨wr.heap.size, 0, none⟩ 1 1 [.int .i64 (j : Nat)] rfl rfl (one_new _ _ _) (by intro u hu; simp at hu; subst hu; rfl) (by unfold maxLen; omega) (by omega) (by simp; omega) ?_))
            intro v' w5 ho hg5 _
            have hO5 : Only (fun q => (Value.slice ra (deadsTo l j).length rc).ownBlock = some q) wr w5 := ((Only.refl _ _).alloc _).grown hg5 (fun q hq _ => hq)
            have hB5 := HB4.out.trans (hO5.below (B := w.heap.size) HB4.out.size (fun q hq e => by have := own_ge HR.out q e; omega))
            obtain ⟨ua, uc, rfl⟩ := own_shape ho
            have HN : Hid (RD1 w l (.int .i64 (j + 1 : Nat)) (.slice ua ((deadsTo l j).length + 1) uc) w5) := ⟨j + 1, rfl, hkl, by rw [HDS.out]; simpa [iCells] using ho, hB5⟩
            clear ho hg5 hO5 hB5 hi hz0 hz1 hz2
            go_wp2_with fail
            go_roundw
            case rel => exact HN.out
            case measure => simp [intOf]; omega
          | false =>
            have HDS : Hid (deadsTo l (j + 1) = deadsTo l j) := by show _ = _; rw [HD.out, if_neg (by rw [hg]; decide), List.append_nil]
            have HN : Hid (RD1 w l (.int .i64 (j + 1 : Nat)) (.slice ra (deadsTo l j).length rc) wr) := ⟨j + 1, rfl, hkl, by rw [HDS.out]; exact row4, HB4.out⟩
            clear hg HD row4
            go_wp2_with fail
            go_roundw
            case rel => exact HN.out
            case measure => simp [intOf]; omega
    · obtain rfl : k = l.length := by omega
      have HF := Lib.hid (And.intro hrow hB)
      clear hrow hB
      go_wp2_with fail
      go_ret
      exact ⟨_, rfl, HF.out.1, HF.out.2⟩
end Go.Proofs.Ytcbkcalemfminaa

/- DiskKeeps, walked. -/
import Derived.Test.YtbgjahgmkbbgjaaKp1
import Derived.Deep.DeepCutAuto
import Derived.Deep.RegionWith
import Derived.Deep.QuietTactic
import Derived.BigQuiet
import Derived.IntWalk
namespace Go.Proofs.Ytbgjahgmkbbgjaa
open Go.RowKit

/-- Behind the call itself, ahead of the second disk's Sync. -/
def KMid (W : World) (p q n k : Nat) (wr : World) : Prop :=
  ∃ (r1 r2 : Nat → Nat) (D S : DS), Mine W wr p r1 n D ∧ Mine W wr q r2 n S ∧ Apart r1 r2 ∧ D.now = S.now ∧ D.uns.length ≤ k + 1 ∧ S.uns.length ≤ 1

set_option maxRecDepth 100000 in
set_option maxHeartbeats 4000000 in
theorem keeps_any (sz : Int) (lv : Value) (l : List Act1) (fv : Value) (fs : List (Int × Int)) (w : World) (hl : IsActs w lv l) (hf : Fates w fv fs) :
    Calls Try.prog 3 #[.int .i64 sz, lv, fv] w fun e w' => e = .returned (.bool true) ∧ Below w.heap.size w w' := by
  obtain ⟨la, lc, elv, hlc⟩ := id hl
  obtain ⟨fa, fc, efv, _⟩ := id hf
  have HLL := Lib.hid hl
  have HLC := Lib.hid hlc
  have HFF := Lib.hid hf
  clear hl hlc hf
  subst elv efv
  go_enter Try.func3, Try.ntmps3
  go_wp2_with fail
  refine (pick_any sz 301 (by omega) (by omega) _).mono ?_
  rintro e w' ⟨n, rfl, hn, rfl⟩
  have hn0 : n ≤ 300 := by omega
  clear hn
  go_wp2_with fail
  refine (few_any _ l _ HLL.out).mono ?_
  rintro e w' ⟨b, rfl, rfl, hb⟩
  obtain ⟨w, rfl⟩ : ∃ w0 : World, w0 = w' := ⟨_, rfl⟩
  cases b with
  | false =>
    clear hb
    go_wp2_with fail
    refine (works_any _).mono ?_
    rintro e w' ⟨rfl, hB⟩
    go_wp2_with fail
    go_ret
    exact ⟨rfl, hB⟩
  | true =>
    have HF := Lib.hid (hb rfl)
    clear hb
    by_cases hf60 : 60 < fs.length
    · go_wp2_with fail
      refine (works_any _).mono ?_
      rintro e w' ⟨rfl, hB⟩
      go_wp2_with fail
      go_ret
      exact ⟨rfl, hB⟩
    · go_wp2_with fail
      refine (new_d n (by omega) _).mono ?_
      rintro e w1 ⟨p, r1, rfl, hD1, hO1, hr1⟩
      have M1 : Mine _ w1 p r1 n (blank n) := ⟨hD1, hr1, hO1.below (Nat.le_refl _) (fun _ _ h => h)⟩
      clear hO1 hD1 hr1
      go_wp2_with fail
      refine (new_d n (by omega) _).mono ?_
      rintro e w2 ⟨q, r2, rfl, hD2, hO2, hr2⟩
      have hB2 := hO2.below (B := w1.heap.size) (Nat.le_refl _) (fun _ _ h => h)
      have hap : Apart r1 r2 := fun k hk => by
        rcases Nat.eq_zero_or_pos (r2 k) with e | e
        · exact e
        · have := hr2 k (by omega); have := M1.d.lt k hk; omega
      have M2 := M1.below hB2
      have S2 : Mine _ w2 q r2 n (blank n) := ⟨hD2, fun k hk => Nat.le_trans M1.bel.size (hr2 k hk), M2.bel⟩
      have HM := Lib.hid M2
      have HS := Lib.hid S2
      have HAP := Lib.hid hap
      clear hO2 hD2 hr2 hB2 M1 M2 S2 hap
      have hl40 : l.length ≤ 40 := HF.out.1
      go_wp2_with fail
      go_loopw [11] (KRel w p q n l.length) (fun i _ => l.length - (intOf i).toNat)
      case atStart => exact ⟨0, r1, r2, blank n, blank n, rfl, Nat.zero_le _, HM.out, HS.out, HAP.out, rfl, by simp [blank], by simp [blank]⟩
      case round =>
        clear HM HS HAP
        obtain ⟨k, r1, r2, D, S, rfl, hk, hM, hS, hap, hnow, hu1, hu2⟩ := hrel
        by_cases hlt : k < l.length
        · obtain ⟨b, o, rfl, hb, hA⟩ := HLC.out (by omega)
          obtain ⟨A, hAk⟩ : ∃ A, l[k]? = some A := ⟨_, List.getElem?_eq_getElem hlt⟩
          have hA1 := (hA k A hAk).below hb hM.bel
          obtain ⟨da, dc, ed, _⟩ := hA1.d
          obtain ⟨ga, gc, eg, _⟩ := hA1.f
          have c0 := hA1.c0
          have c1 := hA1.c1
          have c2 := hA1.c2
          have c3 := hA1.c3
          rw [ed] at c2
          rw [eg] at c3
          have HM := Lib.hid hM
          have HS := Lib.hid hS
          have HAP := Lib.hid hap
          have HNOW := Lib.hid hnow
          have HA := Lib.hid (hA k A hAk)
          have HED := Lib.hid ed
          have HEG := Lib.hid eg
          have hfew := HF.out.2 A (List.mem_of_getElem? hAk)
          clear hM hS hap hnow hA hA1 hAk ed eg
          go_wp2_with fail
          refine (pick_any A.kind 8 (by omega) (by omega) _).mono ?_
          rintro e w' ⟨m, rfl, hm, rfl⟩
          have M3 := HM.out.alloc (.cells #[.int .i64 A.kind, .int .i64 A.at_, .slice da A.ds.length dc, .slice ga A.fs.length gc] 33)
          have S3 := HS.out.alloc (.cells #[.int .i64 A.kind, .int .i64 A.at_, .slice da A.ds.length dc, .slice ga A.fs.length gc] 33)
          have hg3 := alloc_block_new wr (.cells #[.int .i64 A.kind, .int .i64 A.at_, .slice da A.ds.length dc, .slice ga A.fs.length gc] 33)
          have hgn : r1 wr.heap.size = 0 ∧ r2 wr.heap.size = 0 := ⟨HM.out.free (Nat.le_refl _), HS.out.free (Nat.le_refl _)⟩
          generalize wr.alloc (.cells #[.int .i64 A.kind, .int .i64 A.at_, .slice da A.ds.length dc, .slice ga A.fs.length gc] 33) = w3 at *
          obtain ⟨g, eg⟩ : ∃ t, wr.heap.size = t := ⟨_, rfl⟩
          rw [show (some (⟨wr.heap.size, 0, none⟩ : Addr)) = some ⟨g, 0, none⟩ by rw [eg]]
          rw [eg] at hg3 hgn
          have x1 : w3.cell? ⟨g, 1, none⟩ = _ := cell_of_block hg3 1
          have x2 : w3.cell? ⟨g, 2, none⟩ = _ := cell_of_block hg3 2
          have x3 : w3.cell? ⟨g, 3, none⟩ = _ := cell_of_block hg3 3
          dsimp at x1 x2 x3
          have hdH : Holds8 w3 (.slice da A.ds.length dc) A.ds := by rw [← HED.out]; exact HA.out.d.below M3.bel
          have hdF : Fates w3 (.slice ga A.fs.length gc) A.fs := by rw [← HEG.out]; exact HA.out.f.below M3.bel
          have hdb : 0 < A.ds.length → ∀ k, (Value.slice da A.ds.length dc).ownBlock = some k → k < w.heap.size := fun h => by
            have := HA.out.d.lt h
            rw [HED.out] at this
            exact this
          have hfb : 0 < A.fs.length → ∀ k, (Value.slice ga A.fs.length gc).ownBlock = some k → k < w.heap.size := fun h => by
            have := HA.out.f.lt h
            rw [HEG.out] at this
            exact this
          have HM3 := Lib.hid M3
          have HS3 := Lib.hid S3
          have HG3 := Lib.hid hg3
          have HGN := Lib.hid hgn
          have HDH := Lib.hid hdH
          have HDF := Lib.hid hdF
          have HDB := Lib.hid hdb
          have HFB := Lib.hid hfb
          clear M3 S3 hg3 hgn hdH hdF hdb hfb eg c0 c1 c2 c3 HM HS HA HED HEG
          have hu2' : S.uns.length ≤ 0 := by omega
          clear hu2
          by_cases h4 : m = 4
          · subst h4
            go_wp2_with fail
            refine (sync_d HM3.out.d).mono ?_
            rintro e w4 ⟨rfl, hD4, hO4⟩
            have M4 := HM3.out.step hD4 hO4 (fun _ h => .inl h)
            have S4 := HS3.out.other hO4 (fun k h2 h1 => h1 (HAP.out.symm k h2)) M4.bel
            have HMID : Hid (KMid w p q n k w4) := ⟨r1, r2, _, S, M4, S4, HAP.out, HNOW.out, by simp [synced], by omega⟩
            clear M4 S4 hD4 hO4 x1 x2 x3
            obtain ⟨r1', r2', D', S', M4, S4, hap4, hnow4, hu14, hu24⟩ := HMID.out
            have hl4 := M4.d.wf.nowlen
            have HAP4 := Lib.hid hap4
            have HNOW4 := Lib.hid hnow4
            have HL4 := Lib.hid hl4
            have HM4 := Lib.hid M4
            have HS4 := Lib.hid S4
            clear HMID M4 S4 hap4 hnow4 hl4
            go_wp2_with fail
            refine (sync_d HS4.out.d).mono ?_
            rintro e w5 ⟨rfl, hD5, hO5⟩
            have S5 := HS4.out.step hD5 hO5 (fun _ h => .inl h)
            have M5 := HM4.out.other hO5 (fun k h1 h2 => h2 (HAP4.out k h1)) S5.bel
            clear hD5 hO5
            go_wp2_with fail
            refine (read_d 0 n M5.d (by omega)).mono ?_
            rintro e w6 ⟨vx, rfl, hvx, hB6⟩
            have M6 := M5.below hB6
            have S6 := S5.below hB6
            clear M5 S5
            rw [all_of HL4.out] at hvx
            obtain ⟨ax, cx, evx⟩ := hvx.shape
            rw [HL4.out] at evx
            subst evx
            have HVX := Lib.hid hvx
            clear hvx hB6
            go_wp2_with fail
            refine (read_d 0 n S6.d (by omega)).mono ?_
            rintro e w7 ⟨vy, rfl, hvy, hB7⟩
            have hsn : (synced S'.now).now = D'.now := HNOW4.out.symm
            rw [hsn, all_of HL4.out] at hvy
            have M7 := M6.below hB7
            have S7 := S6.below hB7
            have HVX7 := Lib.hid (own_belowb HVX.out hB7)
            have HVY7 := Lib.hid hvy
            have HREL : Hid (KRel w p q n l.length (.int .i64 (k + 1 : Nat)) w7) := ⟨k + 1, r1', r2', D', synced S'.now, rfl, by omega, M7, S7, HAP4.out, HNOW4.out, hu14, rfl⟩
            clear M6 S6 hB7 hvy M7 S7 hsn
            go_wp2_with fail
            refine Calls.mono (same8_eq _ _ D'.now _ ?_ ?_) ?_
            · exact HVX7.out.holds
            · exact HVY7.out.holds
            rintro e w8 ⟨rfl, rfl⟩
            clear HVX7 HVY7
            go_wp2_with fail
            go_roundw
            case rel => first | exact HREL.out | ((repeat apply Exists.intro); exact ⟨HREL.out, rfl⟩)
            case measure => simp [intOf]; omega
          · by_cases h5 : m = 5
            · subst h5
              go_wp2_with fail
              refine (crash_d _ A.fs HM3.out.d HDF.out (fun h j hj => HM3.out.old (HFB.out h j hj)) (by omega)).mono ?_
              rintro e w4 ⟨rfl, hD4, hO4⟩
              have M4 := HM3.out.step hD4 hO4 (fun _ h => .inl h)
              have S4 := HS3.out.other hO4 (fun k h2 h1 => h1 (HAP.out.symm k h2)) M4.bel
              clear hD4 hO4
              go_wp2_with fail
              refine (read_d 0 n M4.d (by omega)).mono ?_
              rintro e w41 ⟨vn, rfl, hvn, hB41⟩
              have hcl := crashed_len HM3.out.d.wf A.fs
              have hvn' : Own8 w41 w4.heap.size vn (crashed D A.fs) := by
                have h := hvn
                rw [show (synced (crashed D A.fs)).now = crashed D A.fs from rfl, all_of hcl] at h
                exact h
              obtain ⟨an, cn, evn⟩ := hvn'.shape
              rw [hcl] at evn
              subst evn
              have HCL := Lib.hid hcl
              have HVN := Lib.hid hvn'
              have M41 := M4.below hB41
              have S41 := S4.below hB41
              have hfree : ∀ j, w4.heap.size ≤ j → r2 j = 0 := fun j h => S4.free h
              clear hvn hvn' hcl M4 S4 hB41 x1 x2 x3
              go_wp2_with fail
              refine (write_d 0 _ (crashed D A.fs) S41.d HVN.out.holds (fun _ j hj => hfree j (own_ge HVN.out j hj)) (by omega)).mono ?_
              rintro e w42 ⟨rfl, r2', hS42, hO42, hr42⟩
              have S42 := S41.step hS42 hO42 hr42
              have M42 := M41.other hO42 (fun k h1 h2 => h2 (HAP.out k h1)) S42.bel
              have hap' : Apart r1 r2' := (Apart.step HAP.out.symm hr42 M41.d.lt).symm
              have HMID : Hid (KMid w p q n k w42) := ⟨r1, r2', _, _, M42, S42, hap', (wrote_all HCL.out S41.d.wf.nowlen).symm, by simp [synced], Nat.le_trans (wrote_uns _ _ _ _) (by omega)⟩
              clear hS42 hO42 hr42 S42 M42 hap' S41 M41 hfree
              obtain ⟨r1', r2', D', S', M4, S4, hap4, hnow4, hu14, hu24⟩ := HMID.out
              have hl4 := M4.d.wf.nowlen
              have HAP4 := Lib.hid hap4
              have HNOW4 := Lib.hid hnow4
              have HL4 := Lib.hid hl4
              have HM4 := Lib.hid M4
              have HS4 := Lib.hid S4
              clear HMID M4 S4 hap4 hnow4 hl4
              go_wp2_with fail
              refine (sync_d HS4.out.d).mono ?_
              rintro e w5 ⟨rfl, hD5, hO5⟩
              have S5 := HS4.out.step hD5 hO5 (fun _ h => .inl h)
              have M5 := HM4.out.other hO5 (fun k h1 h2 => h2 (HAP4.out k h1)) S5.bel
              clear hD5 hO5
              go_wp2_with fail
              refine (read_d 0 n M5.d (by omega)).mono ?_
              rintro e w6 ⟨vx, rfl, hvx, hB6⟩
              have M6 := M5.below hB6
              have S6 := S5.below hB6
              clear M5 S5
              rw [all_of HL4.out] at hvx
              obtain ⟨ax, cx, evx⟩ := hvx.shape
              rw [HL4.out] at evx
              subst evx
              have HVX := Lib.hid hvx
              clear hvx hB6
              go_wp2_with fail
              refine (read_d 0 n S6.d (by omega)).mono ?_
              rintro e w7 ⟨vy, rfl, hvy, hB7⟩
              have hsn : (synced S'.now).now = D'.now := HNOW4.out.symm
              rw [hsn, all_of HL4.out] at hvy
              have M7 := M6.below hB7
              have S7 := S6.below hB7
              have HVX7 := Lib.hid (own_belowb HVX.out hB7)
              have HVY7 := Lib.hid hvy
              have HREL : Hid (KRel w p q n l.length (.int .i64 (k + 1 : Nat)) w7) := ⟨k + 1, r1', r2', D', synced S'.now, rfl, by omega, M7, S7, HAP4.out, HNOW4.out, hu14, rfl⟩
              clear M6 S6 hB7 hvy M7 S7 hsn
              go_wp2_with fail
              refine Calls.mono (same8_eq _ _ D'.now _ ?_ ?_) ?_
              · exact HVX7.out.holds
              · exact HVY7.out.holds
              rintro e w8 ⟨rfl, rfl⟩
              clear HVX7 HVY7
              go_wp2_with fail
              go_roundw
              case rel => first | exact HREL.out | ((repeat apply Exists.intro); exact ⟨HREL.out, rfl⟩)
              case measure => simp [intOf]; omega
            · go_wp2_with fail
              go_region_held3 (fun w' => w'.cell? ⟨g, 1, none⟩ = some (.int .i64 A.at_) ∧ w'.cell? ⟨g, 2, none⟩ = some (.slice da A.ds.length dc)) (go_keep)
                (first
                  | (go_at_call_of 13 (Value.pointer (some ⟨p, 0, none⟩)); refine Calls.mono (write_d (p := p) (r := r1) (N := n) (D := D) A.at_ _ A.ds ?_ ?_ ?_ ?_) ?_
                     · exact HM3.out.d.below (Below.refl _ _).drew
                     · exact HDH.out.below (Below.refl _ _).drew
                     · exact fun h j hj => HM3.out.old (HDB.out h j hj)
                     · omega
                     rintro e w4 ⟨rfl, r1', hD4, hO4, hr4⟩
                     have hO4' : Only (fun k => r1 k ≠ 0) w3 w4 := (Only.refl _ _).drew.trans hO4
                     have hg4 := hO4'.keep HG3.out (by rw [HGN.out.1]; exact fun h => h rfl)
                     have x1' : w4.cell? ⟨g, 1, none⟩ = some (.int .i64 A.at_) := cell_of_block hg4 1
                     have x2' : w4.cell? ⟨g, 2, none⟩ = some (.slice da A.ds.length dc) := cell_of_block hg4 2
                     have hM4 := HM3.out.step hD4 hO4' hr4
                     have hS4 := HS3.out.other hO4' (fun k h2 h1 => h1 (HAP.out.symm k h2)) hM4.bel
                     have HM4 := Lib.hid hM4
                     have HS4 := Lib.hid hS4
                     have HG4 := Lib.hid hg4
                     have HR4 := Lib.hid hr4
                     have HO4 := Lib.hid hO4'
                     clear hD4 hO4 hO4' hr4 hg4 hM4 hS4)
                  | (go_at_call_of 13 (Value.pointer (some ⟨q, 0, none⟩)); refine Calls.mono (write_d (p := q) (r := r2) (N := n) (D := S) A.at_ _ A.ds ?_ ?_ ?_ ?_) ?_
                     · exact HS4.out.d
                     · exact holds_only HDH.out HO4.out (fun h j hj h1 => h1 (HM3.out.old (HDB.out h j hj)))
                     · exact fun h j hj => HS3.out.old (HDB.out h j hj)
                     · omega
                     rintro e w5 ⟨rfl, r2', hD5, hO5, hr5⟩
                     have hg5 := hO5.keep HG4.out (by rw [HGN.out.2]; exact fun h => h rfl)
                     have x1'' : w5.cell? ⟨g, 1, none⟩ = some (.int .i64 A.at_) := cell_of_block hg5 1
                     have x2'' : w5.cell? ⟨g, 2, none⟩ = some (.slice da A.ds.length dc) := cell_of_block hg5 2
                     have hS5 := HS4.out.step hD5 hO5 hr5
                     have hM5 := HM4.out.other hO5 (fun k h1 h2 => h2 ((Apart.step HAP.out HR4.out HS3.out.d.lt) k h1)) hS5.bel
                     have HMID : Hid (KMid w p q n k w5) := ⟨r1', r2', _, _, hM5, hS5, (Apart.step (Apart.step HAP.out HR4.out HS3.out.d.lt).symm hr5 HM4.out.d.lt).symm, wrote_now HNOW.out _ _, Nat.le_trans (wrote_uns _ _ _ _) (by omega), Nat.le_trans (wrote_uns _ _ _ _) (by omega)⟩
                     clear hD5 hO5 hr5 hg5 hS5 hM5))
              clear x1 x1' x1'' x2 x2' x2'' x3 HG4 HR4 HO4 HM4 HS4
              obtain ⟨r1', r2', D', S', M4, S4, hap4, hnow4, hu14, hu24⟩ := HMID.out
              have hl4 := M4.d.wf.nowlen
              have HAP4 := Lib.hid hap4
              have HNOW4 := Lib.hid hnow4
              have HL4 := Lib.hid hl4
              have HM4 := Lib.hid M4
              have HS4 := Lib.hid S4
              clear HMID M4 S4 hap4 hnow4 hl4
              go_wp2_with fail
              refine (sync_d HS4.out.d).mono ?_
              rintro e w5 ⟨rfl, hD5, hO5⟩
              have S5 := HS4.out.step hD5 hO5 (fun _ h => .inl h)
              have M5 := HM4.out.other hO5 (fun k h1 h2 => h2 (HAP4.out k h1)) S5.bel
              clear hD5 hO5
              go_wp2_with fail
              refine (read_d 0 n M5.d (by omega)).mono ?_
              rintro e w6 ⟨vx, rfl, hvx, hB6⟩
              have M6 := M5.below hB6
              have S6 := S5.below hB6
              clear M5 S5
              rw [all_of HL4.out] at hvx
              obtain ⟨ax, cx, evx⟩ := hvx.shape
              rw [HL4.out] at evx
              subst evx
              have HVX := Lib.hid hvx
              clear hvx hB6
              go_wp2_with fail
              refine (read_d 0 n S6.d (by omega)).mono ?_
              rintro e w7 ⟨vy, rfl, hvy, hB7⟩
              have hsn : (synced S'.now).now = D'.now := HNOW4.out.symm
              rw [hsn, all_of HL4.out] at hvy
              have M7 := M6.below hB7
              have S7 := S6.below hB7
              have HVX7 := Lib.hid (own_belowb HVX.out hB7)
              have HVY7 := Lib.hid hvy
              have HREL : Hid (KRel w p q n l.length (.int .i64 (k + 1 : Nat)) w7) := ⟨k + 1, r1', r2', D', synced S'.now, rfl, by omega, M7, S7, HAP4.out, HNOW4.out, hu14, rfl⟩
              clear M6 S6 hB7 hvy M7 S7 hsn
              go_wp2_with fail
              refine Calls.mono (same8_eq _ _ D'.now _ ?_ ?_) ?_
              · exact HVX7.out.holds
              · exact HVY7.out.holds
              rintro e w8 ⟨rfl, rfl⟩
              clear HVX7 HVY7
              go_wp2_with fail
              go_roundw
              case rel => first | exact HREL.out | ((repeat apply Exists.intro); exact ⟨HREL.out, rfl⟩)
              case measure => simp [intOf]; omega
        · have hkl : k = l.length := by omega
          have hu40 : D.uns.length ≤ 40 := by omega
          have HM := Lib.hid hM
          clear hS hap hnow hu1 hu2 hkl hM
          go_wp2_with fail
          refine (durable_d 0 n HM.out.d (by omega)).mono ?_
          rintro e v1 ⟨vw, rfl, hvw, hB1⟩
          rw [all_of HM.out.d.wf.dur] at hvw
          have M1 := HM.out.below hB1
          obtain ⟨aw, cw, evw⟩ := hvw.shape
          rw [HM.out.d.wf.dur] at evw
          subst evw
          have HVW1 := Lib.hid hvw
          clear hvw hB1
          go_wp2_with fail
          refine (read_d 0 n M1.d (by omega)).mono ?_
          rintro e v2 ⟨vn, rfl, hvn, hB2⟩
          rw [all_of M1.d.wf.nowlen] at hvn
          have M2 := M1.below hB2
          have HVW2 := Lib.hid (own_belowb HVW1.out hB2)
          have HVN2 := Lib.hid hvn
          clear hvn hB2 M1 HVW1
          go_wp2_with fail
          refine (unsynced_d M2.d).mono ?_
          rintro e v3 ⟨vu, F, ys, rfl, hNu, hB3⟩
          have M3 := M2.below hB3
          obtain ⟨au, cu, evu⟩ := own_shape hNu.row
          subst evu
          have HVW := Lib.hid (own_belowb HVW2.out hB3)
          have HVN := Lib.hid (own_belowb HVN2.out hB3)
          have HNU := Lib.hid hNu
          clear hNu hB3 M2 HVW2 HVN2
          go_wp2_with fail
          refine (copy_d M3.d).mono ?_
          rintro e v4 ⟨q1, a1, rfl, hC1, hB4, ha1⟩
          have M4 := M3.below hB4
          have C1 : Mine w v4 q1 a1 n D := ⟨hC1, fun j hj => Nat.le_trans M3.bel.size (ha1 j hj), M4.bel⟩
          clear hC1
          go_wp2_with fail
          refine (copy_d M4.d).mono ?_
          rintro e v5 ⟨q2, a2, rfl, hC2, hB5, ha2⟩
          have M5 := M4.below hB5
          have C2 : Mine w v5 q2 a2 n D := ⟨hC2, fun j hj => Nat.le_trans M4.bel.size (ha2 j hj), M5.bel⟩
          have ap12 : Apart a1 a2 := fun j hj => by
            rcases Nat.eq_zero_or_pos (a2 j) with e | e
            · exact e
            · have := ha2 j (by omega); have := C1.d.lt j hj; omega
          have C1 := C1.below hB5
          clear hC2
          go_wp2_with fail
          refine (copy_d M5.d).mono ?_
          rintro e v6 ⟨q3, a3, rfl, hC3, hB6, ha3⟩
          have M6 := M5.below hB6
          have C3 : Mine w v6 q3 a3 n D := ⟨hC3, fun j hj => Nat.le_trans M5.bel.size (ha3 j hj), M6.bel⟩
          have ap13 : Apart a1 a3 := fun j hj => by
            rcases Nat.eq_zero_or_pos (a3 j) with e | e
            · exact e
            · have := ha3 j (by omega); have := C1.d.lt j hj; omega
          have ap23 : Apart a2 a3 := fun j hj => by
            rcases Nat.eq_zero_or_pos (a3 j) with e | e
            · exact e
            · have := ha3 j (by omega); have := C2.d.lt j hj; omega
          have C1 := C1.below hB6
          have C2 := C2.below hB6
          have s4 := hB4.size
          have s5 := hB5.size
          have n1 : ∀ j, a1 j ≠ 0 → v3.heap.size ≤ j := ha1
          have n2 : ∀ j, a2 j ≠ 0 → v3.heap.size ≤ j := fun j hj => Nat.le_trans s4 (ha2 j hj)
          have n3 : ∀ j, a3 j ≠ 0 → v3.heap.size ≤ j := fun j hj => Nat.le_trans (Nat.le_trans s4 s5) (ha3 j hj)
          have hBx := (hB4.trans (hB5.mono s4)).trans (hB6.mono (Nat.le_trans s4 s5))
          have HC1 := Lib.hid C1
          have HC2 := Lib.hid C2
          have HC3 := Lib.hid C3
          have HP12 := Lib.hid ap12
          have HP13 := Lib.hid ap13
          have HP23 := Lib.hid ap23
          have HN1 := Lib.hid n1
          have HN2 := Lib.hid n2
          have HN3 := Lib.hid n3
          have HBX := Lib.hid hBx
          have HM3 := Lib.hid M3
          clear C1 C2 C3 ap12 ap13 ap23 n1 n2 n3 hBx M3 M4 M5 M6 hC3 hB4 hB5 hB6 ha1 ha2 ha3 s4 s5 HM
          go_wp2_with fail
          obtain ⟨f0, hfi, hz0, hz1, hz2⟩ := info_parts info_fate
          go_loopw [27, 28] (KFates v6 D.uns.length) (fun _ i _ => D.uns.length - (intOf i).toNat)
          case atStart => exact ⟨0, rfl, Nat.zero_le _, World.ownsRow_nil _ _ _ _, fun _ h => (by cases h), Below.refl _ _⟩
          case round =>
            obtain ⟨k, rfl, hk, hrow, hrge, hBr⟩ := hrel
            by_cases hlt : k < D.uns.length
            · have HROW := Lib.hid hrow
              have HRGE := Lib.hid hrge
              have HBR := Lib.hid hBr
              clear hrow hrge hBr
              go_wp2_with (at_builtin; refine wpList_append_row _ rfl (.tmp 160) (.tmp 163) 23 rfl 44 f0 (.agg #[.int .i64 0, .int .i64 0]) 2 16 Try.underlying23 hfi hz0 hz1 hz2 rfl (by decide) _ k (keepCells k) rfl (own_only HROW.out ((Only.refl (fun _ => False) _).alloc _) (fun _ _ h => h)) ⟨wr.heap.size, 0, none⟩ 1 1 [.int .i64 1, .int .i64 k] rfl rfl (two_new _ _ _ _) (by intro u hu; simp at hu; rcases hu with rfl | rfl <;> rfl) (by unfold maxLen; omega) (by omega) ?_)
              intro v' w' hown hg5 hb5
              have hO5 : Only (fun j => u27.ownBlock = some j) wr w' := ((Only.refl _ _).alloc _).grown hg5 (fun k hk _ => hk)
              have HREL : Hid (KFates v6 D.uns.length v' (.int .i64 (k + 1 : Nat)) w') := ⟨k + 1, rfl, by omega, by rw [keepCells_succ]; exact hown, fun j hj => by
                rcases hb5 with e | e
                · exact HRGE.out j (by rw [← e]; exact hj)
                · have := HBR.out.size; rw [e] at hj; injection hj with hj; (try simp at hj); omega, HBR.out.trans (hO5.below HBR.out.size (fun j hj e => by have := HRGE.out j e; omega))⟩
              clear hown hg5 hb5 hO5
              go_wp2_with fail
              go_roundw
              case rel => first | exact HREL.out | ((repeat apply Exists.intro); exact ⟨HREL.out, rfl⟩)
              case measure => simp [intOf]; omega
            · have hkn : k = D.uns.length := by omega
              rw [hkn] at hrow
              have hFt := own_fates hrow
              have HFT := Lib.hid hFt
              have HRGE := Lib.hid hrge
              have HBR := Lib.hid hBr
              have hkl : (keeps D.uns.length).length ≤ 1000000 := by simp [keeps]; omega
              clear hrow hFt hrge hBr hkn
              go_wp2_with fail
              refine (crash_d _ (keeps D.uns.length) (HC1.out.below HBR.out).d HFT.out (fun _ j hj => HC1.out.free (HRGE.out j hj)) hkl).mono ?_
              rintro e w7 ⟨rfl, hD7, hO7⟩
              rw [crashed_keeps HC1.out.d.wf] at hD7
              have K1 := (HC1.out.below HBR.out).step hD7 hO7 (fun _ h => .inl h)
              have K2 := (HC2.out.below HBR.out).other hO7 (fun j h2 h1 => h2 (HP12.out j h1)) K1.bel
              have K3 := (HC3.out.below HBR.out).other hO7 (fun j h3 h1 => h3 (HP13.out j h1)) K1.bel
              have B6 := HBX.out.trans (HBR.out.mono HBX.out.size)
              have B7 := B6.trans (hO7.below B6.size (fun j hj e => by have := HN1.out j e; omega))
              clear hD7 hO7 B6 HFT HRGE HBR hkl HC1 HC2 HC3 HBX
              go_wp2_with fail
              refine (crash_d _ [] K2.d (fates_nil _) (fun _ k hk => (by cases hk)) (by decide)).mono ?_
              rintro e w8 ⟨rfl, hD8, hO8⟩
              rw [crashed_none] at hD8
              have L2 := K2.step hD8 hO8 (fun _ h => .inl h)
              have L1 := K1.other hO8 (fun j h1 h2 => h2 (HP12.out j h1)) L2.bel
              have L3 := K3.other hO8 (fun j h3 h2 => h3 (HP23.out j h2)) L2.bel
              have B8 := B7.trans (hO8.below B7.size (fun j hj e => by have := HN2.out j e; omega))
              clear hD8 hO8 B7 K1 K2 K3
              go_wp2_with fail
              refine (crash_d _ fs L3.d (HFF.out.below L3.bel) (fun h j hj => L3.old (HFF.out.lt h j hj)) (by omega)).mono ?_
              rintro e w9 ⟨rfl, hD9, hO9⟩
              have N3 := L3.step hD9 hO9 (fun _ h => .inl h)
              have N1 := L1.other hO9 (fun j h1 h3 => h3 (HP13.out j h1)) N3.bel
              have N2 := L2.other hO9 (fun j h2 h3 => h3 (HP23.out j h2)) N3.bel
              have B9 := B8.trans (hO9.below B8.size (fun j hj e => by have := HN3.out j e; omega))
              clear hD9 hO9 B8 L1 L2 L3 HP12 HP13 HP23 HN1 HN2 HN3
              go_wp2_with fail
              refine (durable_d 0 n N1.d (by omega)).mono ?_
              rintro e w10 ⟨va, rfl, hva, hB10⟩
              have O2 := N2.below hB10
              have O3 := N3.below hB10
              have hla : (synced D.now).dur.length = n := N1.d.wf.dur
              rw [all_of hla] at hva
              have B10 := B9.trans (hB10.mono B9.size)
              have HVA := Lib.hid hva
              clear N1 N2 N3 B9 hva hla hB10
              go_wp2_with fail
              refine (durable_d 0 n O2.d (by omega)).mono ?_
              rintro e w11 ⟨vb, rfl, hvb, hB11⟩
              have P3 := O3.below hB11
              have hlb : (synced D.dur).dur.length = n := O2.d.wf.dur
              rw [all_of hlb] at hvb
              have B11 := B10.trans (hB11.mono B10.size)
              have HVA1 := Lib.hid (own_belowb HVA.out hB11)
              have HVB := Lib.hid hvb
              clear O2 O3 B10 hvb hlb hB11 HVA
              go_wp2_with fail
              refine (durable_d 0 n P3.d (by omega)).mono ?_
              rintro e w12 ⟨vc, rfl, hvc, hB12⟩
              have hlc : (synced (crashed D fs)).dur.length = n := P3.d.wf.dur
              rw [all_of hlc] at hvc
              change Own8 w12 w11.heap.size vc (crashed D fs) at hvc
              change (crashed D fs).length = n at hlc
              obtain ⟨ac, cc, evc⟩ := hvc.shape
              rw [hlc] at evc
              subst evc
              have B12 := B11.trans (hB12.mono B11.size)
              have Q3 := P3.below hB12
              have HQ3 := Lib.hid Q3
              have HVA2 := Lib.hid (own_belowb HVA1.out hB12)
              have HVB2 := Lib.hid (own_belowb HVB.out hB12)
              have HVC2 := Lib.hid hvc
              have HVW2 := Lib.hid (own_belowb HVW.out B12)
              have HVN2 := Lib.hid (own_belowb HVN.out B12)
              have HNU2 := Lib.hid (HNU.out.below B12)
              clear P3 B11 hvc hlc hB12 HVA1 HVB HVW HVN HNU B12 Q3
              go_wp2_with fail
              refine Calls.mono (same8_eq _ _ D.now _ ?_ ?_) ?_
              · exact HVA2.out.holds
              · exact HVN2.out.holds
              rintro e w' ⟨rfl, rfl⟩
              go_wp2_with fail
              refine Calls.mono (same8_eq _ _ D.dur _ ?_ ?_) ?_
              · exact HVB2.out.holds
              · exact HVW2.out.holds
              rintro e w' ⟨rfl, rfl⟩
              obtain ⟨w12, rfl⟩ : ∃ w0 : World, w0 = w' := ⟨_, rfl⟩
              clear HVA2 HVB2 HVN2
              go_wp2_with fail
              have hnd : D.dur.length = n := HM3.out.d.wf.dur
              have hnc : (crashed D fs).length = n := crashed_len HM3.out.d.wf fs
              have HND := Lib.hid hnd
              have HNC := Lib.hid hnc
              clear hnd hnc
              go_loopw [35] (KByte w12 n) (fun i _ => n - (intOf i).toNat)
              case atStart => exact ⟨0, rfl, Nat.zero_le _, Below.refl _ _⟩
              case round =>
                obtain ⟨kb, rfl, hkb, hBk⟩ := hrel
                by_cases hkn : kb < n
                · have hcK := (own_belowb HVC2.out hBk).holds
                  have hwK := (own_belowb HVW2.out hBk).holds
                  obtain ⟨ac', cc', ec, _, _, _, hcc⟩ := hcK
                  injection ec with ec1 ec2 ec3
                  subst ec1 ec3
                  try clear ec2
                  obtain ⟨bc, oc, rfl, hcell⟩ := hcc (by rw [HNC.out]; omega)
                  obtain ⟨aw', cw', ew, _, _, _, hww⟩ := hwK
                  injection ew with ew1 ew2 ew3
                  subst ew1 ew3
                  try clear ew2
                  obtain ⟨bw, ow, rfl, hwell⟩ := hww (by rw [HND.out]; omega)
                  obtain ⟨x, hx⟩ : ∃ x, (crashed D fs)[kb]? = some x := ⟨_, List.getElem?_eq_getElem (by rw [HNC.out]; exact hkn)⟩
                  obtain ⟨y, hy⟩ : ∃ y, D.dur[kb]? = some y := ⟨_, List.getElem?_eq_getElem (by rw [HND.out]; exact hkn)⟩
                  have kc := hcell kb (by rw [HNC.out]; exact hkn)
                  have kw := hwell kb (by rw [HND.out]; exact hkn)
                  rw [show (crashed D fs).getD kb 0 = x by simp [List.getD, hx]] at kc
                  rw [show D.dur.getD kb 0 = y by simp [List.getD, hy]] at kw
                  have HX := Lib.hid hx
                  have HKC := Lib.hid ((hBk.cell (p := ⟨bc, oc + kb, none⟩) (own_lt HVC2.out bc rfl)).symm.trans kc)
                  have HY := Lib.hid hy
                  have HBK := Lib.hid hBk
                  have hbc : bc < w12.heap.size := own_lt HVC2.out bc rfl
                  have ik0 : (0 : Int) ≤ (kb : Int) := by omega
                  have ik1 : (kb : Int) < (n : Int) := by omega
                  clear hcell hwell hcc hww hx hy hBk
                  go_wp2_with fail
                  go_cut [36] (KMay w12 (crashed D fs) D.dur D.uns kb 0)
                  case first =>
                    by_cases hxy : x = y
                    · subst hxy
                      go_quiet (fail)
                      go_wp2
                      go_meet
                      case rel => exact ⟨true, by simp, by rw [mayB_zero, HX.out, HY.out]; simp, below_drewN HBK.out _⟩
                    · have hb : ((x : Int) == (y : Int)) = false := by simp; omega
                      go_quiet (fail)
                      go_wp2
                      go_meet
                      case rel => exact ⟨false, by rfl, by rw [mayB_zero, HX.out, HY.out]; simp [hxy], below_drewN HBK.out _⟩
                  case rest =>
                    clear kc kw
                    have HC0 := Lib.hid hcut
                    clear hcut
                    go_wp2_with fail
                    go_loopw [36, 37] (KWr w12 (crashed D fs) D.dur D.uns kb) (fun _ i _ => D.uns.length - (intOf i).toNat)
                    case atStart => exact ⟨0, rfl, Nat.zero_le _, HC0.out⟩
                    case round =>
                      clear HC0
                      obtain ⟨qw, rfl, hqw, B, rfl, hBB, hBw⟩ := hrel
                      by_cases hlq : qw < D.uns.length
                      · obtain ⟨gu, cu', au', du, yu, eu, hgu, hu, ku0, ku1, hyu⟩ := (HNU2.out.below (Below.refl _ _)).at qw hlq
                        injection eu with eu1 eu2 eu3
                        subst eu1 eu3
                        try clear eu2
                        have hyw := own_belowb hyu hBw
                        rw [← hBw.cell (p := ⟨gu, qw * 2, none⟩) hgu] at ku0
                        rw [← hBw.cell (p := ⟨gu, qw * 2 + 1, none⟩) hgu] at ku1
                        have kc := ((hBw.cell (p := ⟨bc, oc + kb, none⟩) hbc).trans HKC.out)
                        have HBB := Lib.hid hBB
                        have HBW := Lib.hid hBw
                        have HU := Lib.hid hu
                        have HYW := Lib.hid hyw
                        obtain ⟨ya, yc, eyu⟩ := hyu.shape
                        subst eyu
                        have hla := HM3.out.d.wf.lie (au', du) (List.mem_of_getElem? hu)
                        have hn300 := HM3.out.d.wf.le
                        dsimp only at hla
                        clear hBB hBw hu hyw hyu
                        cases B with
                        | true =>
                          have HREL : Hid (∀ j : Nat, KWr w12 (crashed D fs) D.dur D.uns kb (.bool true) (.int .i64 (qw + 1 : Nat)) (wr.drewN j)) := fun j => ⟨qw + 1, rfl, by omega, true, rfl, by rw [mayB_succ HU.out]; simp [HBB.out.1 rfl], below_drewN HBW.out _⟩
                          clear ku0 ku1 kc
                          go_wp2_with fail
                          go_quiet (fail)
                          go_wp2
                          go_roundw
                          case rel => first | exact HREL.out _ | ((repeat apply Exists.intro); exact ⟨HREL.out _, rfl⟩)
                          case measure => simp [intOf]; omega
                        | false =>
                          have hBn : ¬ mayB (crashed D fs) D.dur D.uns kb qw := fun h => by have := HBB.out.2 h; simp at this
                          have HBN := Lib.hid hBn
                          clear hBn
                          by_cases g1 : au' ≤ kb
                          · by_cases g2 : kb < au' + du.length
                            · obtain ⟨z, hz⟩ : ∃ z, du[kb - au']? = some z := ⟨_, List.getElem?_eq_getElem (by omega)⟩
                              obtain ⟨yb', yc', ey, _, _, _, hyy⟩ := HYW.out.holds
                              injection ey with ey1 ey2 ey3
                              subst ey1 ey3
                              try clear ey2
                              obtain ⟨yb, yo, rfl, hyell⟩ := hyy (by omega)
                              have kz := hyell (kb - au') (by omega)
                              rw [show du.getD (kb - au') 0 = z by simp [List.getD, hz]] at kz
                              have HZ := Lib.hid hz
                              have i1 : IntKind.i64.wrap ((kb : Int) - (au' : Int)) = (kb : Int) - (au' : Int) := IntWalk.i64_in _ (by omega)
                              have i2 : IntKind.i64.wrap ((au' : Int) + (du.length : Int)) = (au' : Int) + (du.length : Int) := IntWalk.i64_in _ (by omega)
                              have i3 : (0 : Int) ≤ (kb : Int) - (au' : Int) := by omega
                              have i4 : (kb : Int) - (au' : Int) < (du.length : Int) := by omega
                              have i5 : ((kb : Int) - (au' : Int)).toNat = kb - au' := by omega
                              have i6 : (kb : Int) < (au' : Int) + (du.length : Int) := by omega
                              have i7 : (au' : Int) ≤ (kb : Int) := by omega
                              clear hyell hyy hz
                              by_cases hzx : z = x
                              · subst hzx
                                have HREL : Hid (∀ j : Nat, KWr w12 (crashed D fs) D.dur D.uns kb (.bool true) (.int .i64 (qw + 1 : Nat)) (wr.drewN j)) := fun j => ⟨qw + 1, rfl, by omega, true, rfl, by rw [mayB_succ HU.out, HZ.out, HX.out]; simp [g1, g2], below_drewN HBW.out _⟩
                                go_wp2_with fail
                                go_quiet (fail)
                                clear i1 i2
                                go_wp2
                                go_roundw
                                case rel => first | exact HREL.out _ | ((repeat apply Exists.intro); exact ⟨HREL.out _, rfl⟩)
                                case measure => simp [intOf]; omega
                              · have hzb : ((z : Int) == (x : Int)) = false := by simp; omega
                                have HREL : Hid (∀ j : Nat, KWr w12 (crashed D fs) D.dur D.uns kb (.bool false) (.int .i64 (qw + 1 : Nat)) (wr.drewN j)) := fun j => ⟨qw + 1, rfl, by omega, false, rfl, by rw [mayB_succ HU.out, HZ.out, HX.out]; simp [HBN.out, hzx], below_drewN HBW.out _⟩
                                go_wp2_with fail
                                go_quiet (fail)
                                clear i1 i2
                                go_wp2
                                go_roundw
                                case rel => first | exact HREL.out _ | ((repeat apply Exists.intro); exact ⟨HREL.out _, rfl⟩)
                                case measure => simp [intOf]; omega
                            · have i2 : IntKind.i64.wrap ((au' : Int) + (du.length : Int)) = (au' : Int) + (du.length : Int) := IntWalk.i64_in _ (by omega)
                              have i6 : decide ((kb : Int) < (au' : Int) + (du.length : Int)) = false := by simp; omega
                              have i7 : (au' : Int) ≤ (kb : Int) := by omega
                              have HREL : Hid (∀ j : Nat, KWr w12 (crashed D fs) D.dur D.uns kb (.bool false) (.int .i64 (qw + 1 : Nat)) (wr.drewN j)) := fun j => ⟨qw + 1, rfl, by omega, false, rfl, by rw [mayB_succ HU.out]; simp [HBN.out, g2], below_drewN HBW.out _⟩
                              go_wp2_with fail
                              go_quiet (fail)
                              clear i2 i6
                              go_wp2
                              go_roundw
                              case rel => first | exact HREL.out _ | ((repeat apply Exists.intro); exact ⟨HREL.out _, rfl⟩)
                              case measure => simp [intOf]; omega
                          · have i6 : decide ((au' : Int) ≤ (kb : Int)) = false := by simp; omega
                            have HREL : Hid (∀ j : Nat, KWr w12 (crashed D fs) D.dur D.uns kb (.bool false) (.int .i64 (qw + 1 : Nat)) (wr.drewN j)) := fun j => ⟨qw + 1, rfl, by omega, false, rfl, by rw [mayB_succ HU.out]; simp [HBN.out, g1], below_drewN HBW.out _⟩
                            go_wp2_with fail
                            go_quiet (fail)
                            clear i6
                            go_wp2
                            go_roundw
                            case rel => first | exact HREL.out _ | ((repeat apply Exists.intro); exact ⟨HREL.out _, rfl⟩)
                            case measure => simp [intOf]; omega
                      · have hqn : qw = D.uns.length := by omega
                        have hB1 : B = true := hBB.2 (by rw [hqn]; exact mayB_all HM3.out.d.wf fs kb)
                        subst hB1
                        have HBW := Lib.hid hBw
                        clear hBB hBw hqn
                        go_wp2_with fail
                        go_roundw
                        case rel => first | exact ⟨kb + 1, by go_num, by omega, HBW.out⟩ | ((repeat apply Exists.intro); exact ⟨⟨kb + 1, by go_num, by omega, HBW.out⟩, rfl⟩)
                        case measure => simp [intOf]; omega
                · have HBK := Lib.hid hBk
                  clear hBk
                  go_wp2_with fail
                  refine (unsynced_d (HQ3.out.below HBK.out).d).mono ?_
                  rintro e w13 ⟨vz, F', ys', rfl, hNz, hB13⟩
                  obtain ⟨az, cz, ez⟩ := own_shape hNz.row
                  rw [show (synced (crashed D fs)).uns.length = 0 from rfl] at ez
                  subst ez
                  have Q4 := Lib.hid ((HQ3.out.below HBK.out).below hB13).bel
                  clear hNz hB13
                  go_wp2_with fail
                  refine (works_any _).mono ?_
                  rintro e w14 ⟨rfl, hBz⟩
                  go_wp2_with fail
                  go_ret
                  exact ⟨rfl, Q4.out.trans (hBz.mono Q4.out.size)⟩
end Go.Proofs.Ytbgjahgmkbbgjaa

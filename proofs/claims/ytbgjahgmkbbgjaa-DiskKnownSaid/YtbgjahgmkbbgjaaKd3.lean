/- DiskKnown, walked, over DiskPlays's contract. -/
import Derived.Test.YtbgjahgmkbbgjaaKd2
import Derived.Test.YtbgjahgmkbbgjaaStep
import Derived.Outline
import Derived.Deep.RegionHeld3
import Derived.Deep.RegionLaw
namespace Go.Proofs.Ytbgjahgmkbbgjaa
open Go.RowKit

theorem four_at (w : World) (x y z u : Value) (e : TypeId) (g : Nat) (hg : w.heap.size = g) : ∀ j t, [x, y, z, u][j]? = some t → (w.alloc (.cells #[x, y, z, u] e)).cell? ((⟨g, 0, none⟩ : Addr).add j) = some t := by
  subst hg
  exact four_new w x y z u e
/-- DiskPlays's contract. -/
def PlaysHold : Prop := ∀ (size at_ n : Int) (lv : Value) (l : List Act1) (w : World), IsActs w lv l →
    Calls Try.prog 20 #[.int .i64 size, lv, .int .i64 at_, .int .i64 n] w fun e w' => e = .returned (.bool true) ∧ Below w.heap.size w w'

set_option maxRecDepth 100000 in
set_option maxHeartbeats 20000000 in
theorem known_of (hp : PlaysHold) (w : World) :
    Calls Try.prog 5 #[] w fun e w' => e = .returned (.bool true) ∧ Below w.heap.size w w' := by
  obtain ⟨i0, hi, hz0, hz1, hz2⟩ := info_parts info_act
  have HI := Lib.hid (And.intro hi (And.intro hz0 (And.intro hz1 hz2)))
  unfold PlaysHold at hp
  have HP := Lib.hid hp
  clear hi hz0 hz1 hz2 hp
  go_enter Try.func5, Try.ntmps5
  go_wp2_with fail
  go_loopw [1] (OutRel w) (fun i _ => 40 - (intOf i).toNat)
  case atStart => exact ⟨0, rfl, Nat.zero_le _, Below.refl _ _⟩
  case round =>
    obtain ⟨i, rfl, hi40, hB⟩ := hrel
    have HB := Lib.hid hB
    clear hB
    by_cases hlt : i < 40
    · as_aux_lemma =>
      obtain ⟨wo, rfl⟩ : ∃ wo : World, wo = wr := ⟨_, rfl⟩
      have d40 : decide ((i : Int) < 40) = true := by simp; omega
      go_wp2_with fail
      go_loopw [4, 5, 2, 3] (MkRel wo) (fun _ n _ _ _ => 24 - (intOf n).toNat)
      case atStart => exact ⟨[], [], i, 0, rfl, rfl, rfl, rfl, Nat.zero_le _, by omega, .inl ⟨rfl, rfl⟩, Below.refl _ _, World.ownsRow_nil _ _ _ _, fun A h => by simp at h⟩
      case round =>
        obtain ⟨l, fs, k, n, rfl, rfl, hln, hfn, hn, hk, hF, hA⟩ := hrel
        by_cases hn6 : n < 24
        · as_aux_lemma =>
          obtain ⟨la, lc, ev⟩ := own_shape hA.row
          subst ev
          obtain ⟨fa, fc, ev⟩ := hF.shape
          subst ev
          have HA := Lib.hid hA
          have HF := Lib.hid hF
          have hfl : fs.length < 24 := by omega
          have HLN := Lib.hid (And.intro hln hfn)
          clear hA hF hln hfn
          go_wp2_with (first | (at_builtin; refine wpList_append_f rfl (.tmp 15) (.tmp 24) rfl (v := .slice fa fs.length fc) (B := wo.heap.size) (fs := fs) rfl ?_ ⟨wr.heap.size, 0, none⟩ ((k : Int) % 5 - 1, (k : Int) / 5 % 7 - 1) 1 rfl ?_ ?_ ?_ ?_))
          · exact HF.out.below ((Below.refl _ _).alloc (Nat.le_refl _) _)
          · omega
          · have := HA.out.bel.size; simp; omega
          · intro v' w' hF1 hK1
            have hA1 := (HA.out.below ((Below.refl _ _).alloc (Nat.le_refl _) (.cells #[.int .i64 ((k : Int) % 5 - 1), .int .i64 ((k : Int) / 5 % 7 - 1)] 44))).fate (HF.out.below ((Below.refl _ _).alloc (Nat.le_refl _) (.cells #[.int .i64 ((k : Int) % 5 - 1), .int .i64 ((k : Int) / 5 % 7 - 1)] 44))).ty (by rw [← HLN.out.2]; exact hK1)
            obtain ⟨g, c, ev, hgc⟩ := hF1.some (n + 1) (by simp [HLN.out.2]) (by omega)
            subst ev
            have HF1 := Lib.hid hF1
            have HA1 := Lib.hid hA1
            clear hF1 hA1 hK1 HA HF
            go_wp2_with fail
            obtain ⟨w1, rfl⟩ : ∃ w0 : World, w0 = w' := ⟨_, rfl⟩
            obtain ⟨m5, e5, h5⟩ : ∃ m : Nat, (k : Int).tmod 5 = m ∧ m ≤ 4 := ⟨k % 5, by rw [Int.tmod_eq_emod_of_nonneg (by omega)]; omega, by omega⟩
            obtain ⟨m2, e2, h2⟩ : ∃ m : Nat, IntKind.i64.wrap ((n : Int) / 2) = m ∧ m ≤ n := ⟨n / 2, by rw [IntWalk.i64_in _ (by omega)]; omega, by omega⟩
            obtain ⟨kd, ekd⟩ : ∃ x : Int, (IntKind.i64.wrap ((k : Int) / 3)).tmod 8 = x := ⟨_, rfl⟩
            obtain ⟨pl, epl⟩ : ∃ x : Int, IntKind.i64.wrap ((k : Int).tmod 25 - 1) = x := ⟨_, rfl⟩
            obtain ⟨b0, eb0⟩ : ∃ x : Nat, IntKind.u8.wrap (k : Int) = x := ⟨k % 256, by unfold IntKind.wrap; simp [IntKind.signed, IntKind.bits]⟩
            obtain ⟨b1, eb1⟩ : ∃ x : Nat, IntKind.u8.wrap (n : Int) = x := ⟨n % 256, by unfold IntKind.wrap; simp [IntKind.signed, IntKind.bits]⟩
            obtain ⟨b3, eb3⟩ : ∃ x : Nat, IntKind.u8.wrap (IntKind.i64.wrap ((k : Int) / 7)) = x := ⟨k / 7 % 256, by rw [IntWalk.i64_in _ (by omega)]; unfold IntKind.wrap; simp [IntKind.signed, IntKind.bits]⟩
            have h5i : (m5 : Int) ≤ 4 := by omega
            have h2i : (m2 : Int) ≤ (n : Int) + 1 := by omega
            have hm2c : ¬ c = m2 := by omega
            have hm2c' : ¬ m2 = c := by omega
            have hm2c2 : ¬ c - m2 = 0 := by omega
            have hll : l.length ≤ 24 := by rw [HLN.out.1]; omega
            clear hfl
            obtain ⟨hi, hz0, hz1, hz2⟩ := HI.out
            go_cut [2] (CutRel wo (.slice (some ⟨g, 0, none⟩) (n + 1) c) (n + 1) (fs ++ [((k : Int) % 5 - 1, (k : Int) / 5 % 7 - 1)]))
            case first =>
              go_region_held3 (fun _ => True) (trivial) ((refine step_append_row rfl (.tmp 26) (.tmp 49) 22 rfl 33 i0 (.agg #[.int .i64 0, .int .i64 0, .slice none 0 0, .slice none 0 0]) 4 64 Try.underlying22 hi hz0 hz1 hz2 rfl (by decide) (.slice la l.length lc) l.length (aCells l) rfl (((own_lower HA1.out.row (Nat.zero_le _)).alloc _).alloc _) ⟨w1.heap.size + 1, 0, none⟩ 1 1 [.int .i64 _, .int .i64 _, .slice _ _ _, .slice _ _ _] rfl rfl (four_at _ _ _ _ _ _ _ (by simp)) (by intro u hu; simp at hu; rcases hu with rfl | rfl | rfl | rfl <;> rfl) (by unfold maxLen; omega) (by omega) ?_; intro v' w' hown' hg' hb'))
              all_goals
                have HC := Lib.hid (cut_of HF1.out (by simp [HLN.out.2]) HA1.out HLN.out.1 h5 h2 hown' hg' hb')
                clear hown' hg' hb' HF1 HA1 hi hz0 hz1 hz2
                go_simp
                go_wp2
                go_meet
                case rel => exact HC.out
            case rest =>
              have HC := Lib.hid hcut
              clear hcut HF1 HA1 hi hz0 hz1 hz2 e5 e2 ekd epl eb0 eb1 eb3
              go_wp2_with fail
              go_roundw
              case rel =>
                obtain ⟨l', hl', hF', hA'⟩ := HC.out
                exact ⟨l', _, (k * 31 + 7 * n + 11) % 100003, n + 1, by first | rfl | (congr 1), by go_num, hl', by simp [HLN.out.2], by omega, by omega, hF', hA'⟩
              case measure => simp [intOf]; omega
        · as_aux_lemma =>
          obtain rfl : n = 24 := by omega
          obtain ⟨lg, lcap, elv, hlg, _⟩ := own_slice hA.row (by omega)
          subst elv
          obtain ⟨fa, fc, ev⟩ := hF.shape
          subst ev
          have hI := hA.acts
          have hFF := hF.fates
          have hBo := HB.out.trans (hA.bel.mono HB.out.size)
          have HLN := Lib.hid hln
          have HII := Lib.hid (And.intro hI hFF)
          have HBO := Lib.hid hBo
          clear hI hFF hA hF hBo HB
          rw [hln, hfn]
          rw [hln, hfn] at HII
          clear hln hfn
          go_wp2_with fail
          refine Calls.mono (HP.out (i : Int) ((i : Int) % 9 - 1) ((i : Int) / 3 - 1) (.slice (some ⟨lg, 0, none⟩) 24 lcap) l wr HII.out.1) ?_
          rintro e w1 ⟨rfl, hB1⟩
          have I1 := HII.out.1.below hB1
          have F1 := HII.out.2.below hB1
          have B1 := HBO.out.trans (hB1.mono HBO.out.size)
          have HI1 := Lib.hid (And.intro I1 F1)
          have HB1 := Lib.hid B1
          clear I1 F1 B1 hB1 HII HBO
          go_wp2_with fail
          refine Calls.mono (keeps_any (i : Int) (.slice (some ⟨lg, 0, none⟩) 24 lcap) l (.slice fa 24 fc) fs w1 HI1.out.1 HI1.out.2) ?_
          rintro e w2 ⟨rfl, hB2⟩
          have I2 := HI1.out.1.below hB2
          have B2 := HB1.out.trans (hB2.mono HB1.out.size)
          obtain ⟨A, hAi⟩ : ∃ A, l[i % 24]? = some A := ⟨_, List.getElem?_eq_getElem (by rw [HLN.out]; omega)⟩
          obtain ⟨ao, cp, e3, hx3⟩ := id I2
          obtain ⟨b3, o3, eao, hb3, hA3⟩ := hx3 (by rw [HLN.out]; omega)
          injection e3 with e3 e5 e6
          clear e5 e6
          rw [eao] at e3
          injection e3 with e3
          injection e3 with e3 e4 _
          subst e3 e4
          have hA3 := hA3 (i % 24) A hAi
          have c0 := hA3.c0
          have c1 := hA3.c1
          have c2 := hA3.c2
          have c3 := hA3.c3
          obtain ⟨da, dc, ed, _⟩ := id hA3.d
          obtain ⟨fo, fk, ef, _⟩ := id hA3.f
          have hd3 := hA3.d
          have hf3 := hA3.f
          rw [ed] at c2 hd3
          rw [ef] at c3 hf3
          simp only [Nat.zero_add] at c0 c1 c2 c3
          have HD3 := Lib.hid (And.intro hd3 hf3)
          have HB3 := Lib.hid B2
          clear I2 B2 hB2 HI1 HB1 hx3 hA3 hd3 hf3 hAi ed ef eao
          go_wp2_with fail
          refine (none_any ⟨A.kind, A.at_, _, A.ds, _, A.fs⟩ _ w2 HD3.out.1 HD3.out.2).mono ?_
          rintro e w4 ⟨rfl, hB4⟩
          have B4 := HB3.out.trans (hB4.mono HB3.out.size)
          have HB4 := Lib.hid B4
          clear B4 hB4 HB3 c0 c1 c2 c3 HD3
          go_wp2_with fail
          go_roundw
          case rel => exact ⟨i + 1, by go_num, by omega, HB4.out⟩
          case measure => simp [intOf]; omega
    · have d40 : decide ((i : Int) < 40) = false := by simp; omega
      go_wp2_with fail
      refine Calls.mono (HP.out (-1) 0 0 (.slice none 0 0) [] wr (no_acts wr)) ?_
      rintro e w1 ⟨rfl, hB1⟩
      have B1 := HB.out.trans (hB1.mono HB.out.size)
      have HB1 := Lib.hid B1
      clear B1 hB1 HB
      go_wp2_with fail
      refine Calls.mono (HP.out 65537 0 0 (.slice none 0 0) [] w1 (no_acts w1)) ?_
      rintro e w2 ⟨rfl, hB2⟩
      have B2 := HB1.out.trans (hB2.mono HB1.out.size)
      have HB2 := Lib.hid B2
      clear B2 hB2 HB1
      go_wp2_with fail
      have hz1 : ((w2.alloc (.cells #[.int .u8 1] 5)).alloc (.cells #[.int .i64 0, .int .i64 4611686018427387904, .slice (some ⟨w2.heap.size, 0, none⟩) 1 1, .slice none 0 0, .int .i64 0, .int .i64 9, .slice none 0 0, .slice none 0 0, .int .i64 0, .int .i64 10, .slice none 0 0, .slice none 0 0, .int .i64 0, .int .i64 (-1), .slice none 0 0, .slice none 0 0] 33)).heap[w2.heap.size]? = some (.cells #[.int .u8 1] 5 (0, 0)) := (alloc_block_old _ (by simp)).trans (alloc_block_new w2 _)
      have hz2 := alloc_block_at (w2.alloc (.cells #[.int .u8 1] 5)) (.cells #[.int .i64 0, .int .i64 4611686018427387904, .slice (some ⟨w2.heap.size, 0, none⟩) 1 1, .slice none 0 0, .int .i64 0, .int .i64 9, .slice none 0 0, .slice none 0 0, .int .i64 0, .int .i64 10, .slice none 0 0, .slice none 0 0, .int .i64 0, .int .i64 (-1), .slice none 0 0, .slice none 0 0] 33) (show w2.heap.size + 1 = _ by simp)
      have I0 := big_acts hz1 hz2
      have B0 : Below w.heap.size w ((w2.alloc (.cells #[.int .u8 1] 5)).alloc (.cells #[.int .i64 0, .int .i64 4611686018427387904, .slice (some ⟨w2.heap.size, 0, none⟩) 1 1, .slice none 0 0, .int .i64 0, .int .i64 9, .slice none 0 0, .slice none 0 0, .int .i64 0, .int .i64 10, .slice none 0 0, .slice none 0 0, .int .i64 0, .int .i64 (-1), .slice none 0 0, .slice none 0 0] 33)) := HB2.out.trans (((((Below.refl w2.heap.size w2).alloc (Nat.le_refl _) _).alloc (by simp) _)).mono HB2.out.size)
      generalize (w2.alloc (.cells #[.int .u8 1] 5)).alloc (.cells #[.int .i64 0, .int .i64 4611686018427387904, .slice (some ⟨w2.heap.size, 0, none⟩) 1 1, .slice none 0 0, .int .i64 0, .int .i64 9, .slice none 0 0, .slice none 0 0, .int .i64 0, .int .i64 10, .slice none 0 0, .slice none 0 0, .int .i64 0, .int .i64 (-1), .slice none 0 0, .slice none 0 0] 33) = w9 at *
      refine Calls.mono (HP.out 9 4611686018427387904 4611686018427387904 (.slice (some ⟨w2.heap.size + 1, 0, none⟩) 4 4) (bigL w2.heap.size) w9 I0) ?_
      rintro e w3 ⟨rfl, hB3⟩
      have B3 := B0.trans (hB3.mono B0.size)
      have HB3 := Lib.hid B3
      clear B3 hB3 HB2 B0 I0 hz1 hz2
      go_wp2_with fail
      refine (works_any w3).mono ?_
      rintro e w4 ⟨rfl, hB4⟩
      go_wp2_with fail
      go_ret
      exact ⟨rfl, HB3.out.trans (hB4.mono HB3.out.size)⟩
end Go.Proofs.Ytbgjahgmkbbgjaa

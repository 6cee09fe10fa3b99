/- RuleKnown: walked. -/
import Derived.Test.YtcbkcalemfminaaRt1
namespace Go.Proofs.Ytcbkcalemfminaa
open Go.RowKit
theorem rows_ky (n : Nat) (parts : Array (Nat × Value)) : Instr.buildSlice 53 n parts = rowRow 53 n parts := by unfold rowRow; rfl
attribute [local go_sem ↓] load_ad load_pf load_ru load_ky load_bs build_pf build_ru build_cl build_ky build_ad rows_ru rows_ky

def keyOf (i k : Nat) (p : Nat) : Ky := ⟨fourA 10 (i % 256) 0 (k % 256), fourA 9 9 9 (i % 256), p, k * 9, i⟩
theorem keyOf_ok {i k p : Nat} (hp : p < 256) : (keyOf i k p).Ok := ⟨fourA_ok (by decide) (by omega) (by decide) (by omega), fourA_ok (by decide) (by decide) (by decide) (by omega), hp⟩
theorem built_key (i k p : Nat) (w : World) : (buildRow 28 #[(0, .agg (fourA 10 (i % 256) 0 (k % 256)).arr), (1, .agg (fourA 9 9 9 (i % 256)).arr), (2, .int .u8 p), (3, .int .u16 ((k * 9 : Nat) : Int)), (4, .int .u16 i)]).run Try.prog w = .ok (.agg (keyOf i k p).arr) w := by
  unfold buildRow
  exact run_build w _ _ _ (by kernel_rfl)
theorem info_ky : (Try.prog.info? 28).map (fun i => (i.zero, i.size, i.bytes)) = some (some (.agg Ky.zero.arr), 37, 40) := by kernel_rfl
theorem built_kys {k : Ky} (hk : k.Ok) (w : World) : (rowRow 53 1 #[(0, .agg k.arr)]).run Try.prog w = .ok (.slice (some ⟨w.heap.size, 0, none⟩) 1 1) (w.alloc (.cells k.arr 28)) := by
  obtain ⟨i, hi, hz0, hz1, hz2⟩ := info_parts info_ky
  refine run_rowRow w _ _ 1 _ _ i _ Try.underlying53 hi hz0 (by rw [hz1]; decide) (by rw [hz1]; decide) ?_
  rw [hz1]
  obtain ⟨⟨s, bs⟩, ⟨s', bs'⟩, a, b, c⟩ := k
  obtain ⟨x0, x1, x2, x3, x4, x5, x6, x7, x8, x9, x10, x11, x12, x13, x14, x15, rfl⟩ := len16 hk.s.1
  obtain ⟨y0, y1, y2, y3, y4, y5, y6, y7, y8, y9, y10, y11, y12, y13, y14, y15, rfl⟩ := len16 hk.d.1
  kernel_rfl

theorem own_lower9 {w : World} {base : Nat} {e : TypeId} {size : Nat} {v : Value} {n : Nat} {xs : List Value} (h : w.ownsRow base e size v n xs) : w.ownsRow 0 e size v n xs := by
  refine ⟨h.1, ?_⟩
  rcases h.2 with hn | ⟨g, cap, cur, hv, hg, rest⟩
  · exact .inl hn
  · exact .inr ⟨g, cap, cur, hv, Nat.zero_le _, rest⟩
/-- Ahead of each of the 150; of each key; of each rule. -/
def K1Rel (W : World) (i : Value) (w : World) : Prop := ∃ n : Nat, i = .int .i64 n ∧ n ≤ 150 ∧ Below W.heap.size W w
def K2Rel (w1 : World) (k v : Value) (w : World) : Prop := ∃ (n : Nat) (ks : List Ky), k = .int .i64 n ∧ n ≤ 8 ∧ ks.length = n ∧ (∀ x ∈ ks, x.Ok) ∧ w.ownsRow w1.heap.size 28 37 v n (kCells ks) ∧ Below w1.heap.size w1 w
def K3Rel (wt : World) (m : Nat) (i : Value) (w : World) : Prop := ∃ n : Nat, i = .int .i64 n ∧ n ≤ m ∧ Below wt.heap.size wt w

def oddR : Ru := { Ru.any with slo := 5, shi := 4 }
def denR : Ru := { Ru.any with deny := true, cls := 1 }
theorem oddR_ok : oddR.Ok := ⟨Ad.zero_ok, Ad.zero_ok, by decide⟩
theorem denR_ok : denR.Ok := ⟨Ad.zero_ok, Ad.zero_ok, by decide⟩
theorem Ky.zero_ok : Ky.zero.Ok := ⟨Ad.zero_ok, Ad.zero_ok, by decide⟩
theorem built_ky0 (w : World) : (buildRow 28 #[]).run Try.prog w = .ok (.agg Ky.zero.arr) w := by
  unfold buildRow
  exact run_build w _ _ _ (by kernel_rfl)

set_option maxRecDepth 100000 in
set_option maxHeartbeats 4000000 in
theorem known_any (w : World) :
    Calls Try.prog 5 #[] w fun e w' => e = .returned (.bool true) ∧ Below w.heap.size w w' := by
  obtain ⟨i0, hi0, hz0, hz1, hz2⟩ := info_parts info_ky
  have HI := Lib.hid (And.intro hi0 (And.intro hz0 (And.intro hz1 hz2)))
  clear hi0 hz0 hz1 hz2
  go_enter Try.func5, Try.ntmps5
  go_wp2_with fail
  go_loopw [1] (K1Rel w) (fun i _ => 150 - (intOf i).toNat)
  case atStart => exact ⟨0, rfl, Nat.zero_le _, Below.refl _ _⟩
  case round =>
    obtain ⟨n, rfl, hn, hB⟩ := hrel
    by_cases hlt : n < 150
    · have hni : (n : Int) < 150 := by omega
      have HB := Lib.hid hB
      clear hB
      obtain ⟨w0, rfl⟩ : ∃ wo : World, wo = wr := ⟨_, rfl⟩
      go_wp2_with fail
      refine (some_is (n * 37) (by omega) _).mono ?_
      rintro e w1 ⟨lv, l, rfl, hl6, hlok, hlo, hB1⟩
      obtain ⟨la, lc, rfl⟩ := own_shape hlo
      have H1 := Lib.hid (And.intro (hlo.rules hlok) (And.intro hlo.rz (HB.out.trans (hB1.mono HB.out.size))))
      clear hlo hB1
      go_wp2_with fail
      go_loopw [4, 3] (K2Rel w1) (fun i _ _ => 8 - (intOf i).toNat)
      case atStart => exact ⟨0, [], rfl, by omega, rfl, fun x hx => by simp at hx, World.ownsRow_nil _ _ _ _, Below.refl _ _⟩
      case round =>
        obtain ⟨k, ks, rfl, hk, hkl, hok, hrow, hBk⟩ := hrel
        by_cases hk8 : k < 8
        · have hki : (k : Int) < 8 := by omega
          have hn8 : IntKind.u8.wrap (n : Int) = ((n % 256 : Nat) : Int) := by
            show (n : Int) % 256 = _
            omega
          have hf2 : Hid (∀ w, Calls Try.prog 16 #[.int .u8 9, .int .u8 9, .int .u8 9, .int .u8 ((n : Int) % 256)] w fun e w' => e = .returned (.agg (fourA 9 9 9 (n % 256)).arr) ∧ Below w.heap.size w w') := fun w => four_is (a := 9) (b := 9) (c := 9) (d := n % 256) (by decide) (by decide) (by decide) (by omega) w
          have HK := Lib.hid (And.intro hkl (And.intro hok (And.intro hrow hBk)))
          have hBks := hBk.size
          obtain ⟨va, vc, rfl⟩ := own_shape hrow
          obtain ⟨wk, rfl⟩ : ∃ wo : World, wo = wr := ⟨_, rfl⟩
          obtain ⟨hi0, hz0, hz1, hz2⟩ := HI.out
          have HROW := Lib.hid hrow
          have HBK := Lib.hid hBk
          have hn16 : IntKind.u16.wrap (n : Int) = (n : Int) := IntWalk.u16_in _ (by omega)
          have hcs : (k : Int) % 4 = 0 ∨ (k : Int) % 4 = 1 ∨ (k : Int) % 4 = 2 ∨ (k : Int) % 4 = 3 := by omega
          clear hrow hBk
          rcases hcs with hk4 | hk4 | hk4 | hk4
          · have hf1 : Hid (∀ w, Calls Try.prog 16 #[.int .u8 10, .int .u8 ((n : Int) % 256), .int .u8 0, .int .u8 k] w fun e w' => e = .returned (.agg (fourA 10 (n % 256) 0 (k % 256)).arr) ∧ Below w.heap.size w w') := fun w => by
              have h := four_is (a := 10) (b := n % 256) (c := 0) (d := k) (by decide) (by omega) (by decide) (by omega) w
              rw [show k % 256 = k by omega]
              exact h
            have hbk : ∀ w, (buildRow 28 #[(0, .agg (fourA 10 (n % 256) 0 (k % 256)).arr), (1, .agg (fourA 9 9 9 (n % 256)).arr), (2, .int .u8 6), (3, .int .u16 ((k : Int) * 9)), (4, .int .u16 n)]).run Try.prog w = .ok (.agg (keyOf n k 6).arr) w := fun w => built_key n k 6 w
            have hkok : (keyOf n k 6).Ok := keyOf_ok (by decide)
            have hbs := built_kys hkok
            generalize keyOf n k 6 = kk at *
            have wk8 : IntKind.u8.wrap (k : Int) = k := IntWalk.u8_in _ (by omega)
            have wp8 : IntKind.u8.wrap (6 : Int) = 6 := rfl
            have ws16 : IntKind.u16.wrap (IntKind.i64.wrap ((k : Int) * 9)) = (k : Int) * 9 := by rw [IntWalk.i64_in _ (by omega), IntWalk.u16_in _ (by omega)]
            have hkt : Int.tmod (k : Int) 4 = 0 := by rw [Int.tmod_eq_emod_of_nonneg (by omega)]; exact hk4
            go_upto_region 9 with (fail)
            go_region_law (first
                | (refine step_append_row rfl (.tmp 19) (.tmp 40) 53 rfl 28 i0 (.agg Ky.zero.arr) 37 40 Try.underlying53 hi0 hz0 hz1 hz2 (by kernel_rfl) (by decide) (.slice va k vc) k (kCells ks) ?_ ?_ ⟨w4.heap.size + 1, 0, none⟩ 1 1 kk.cs ?_ (by rw [hkok.len]) ?_ kk.one (by unfold maxLen; omega) (by omega) ?_
                   · simp [go_sem]
                   · with_reducible exact ((own_lower9 (own_kept HROW.out HB4.out)).alloc _).alloc _
                   · simp [go_sem]
                   · exact fun j u hj => by rw [Addr.add_lit]; exact range_block (alloc_block_at _ (.cells kk.arr 28) (by simp)) j u hj
                   intro v' w' hown' hg' hb')
                | (refine step_append_row rfl (.tmp 19) (.tmp 40) 53 rfl 28 i0 (.agg Ky.zero.arr) 37 40 Try.underlying53 hi0 hz0 hz1 hz2 (by kernel_rfl) (by decide) (.slice va k vc) k (kCells ks) ?_ ?_ ⟨w4.heap.size, 0, none⟩ 1 1 kk.cs ?_ (by rw [hkok.len]) ?_ kk.one (by unfold maxLen; omega) (by omega) ?_
                   · simp [go_sem]
                   · with_reducible exact (own_lower9 (own_kept HROW.out HB4.out)).alloc _
                   · simp [go_sem]
                   · exact fun j u hj => by rw [Addr.add_lit]; exact range_block (alloc_block_new w4 (.cells kk.arr 28)) j u hj
                   intro v' w' hown' hg' hb')
                | (go_simp; go_at_call 16; (first | with_reducible refine Calls.mono (hf1.out wk.drew) ?_ | with_reducible refine Calls.mono (hf2.out wk.drew) ?_); rintro e w3 ⟨rfl, hB3⟩
                   have HB3 : Hid (Below wk.heap.size wk w3) := (Below.refl wk.heap.size wk).drew.trans hB3; clear hB3; dsimp only)
                | (go_simp; go_at_call 16; (first | with_reducible refine Calls.mono (hf1.out (wk.alloc _).drew) ?_ | with_reducible refine Calls.mono (hf2.out (wk.alloc _).drew) ?_); rintro e w3 ⟨rfl, hB3⟩
                   have HB3 : Hid (Below wk.heap.size wk w3) := ((Below.refl wk.heap.size wk).alloc (Nat.le_refl _) (.cells #[.int .i64 6, .int .i64 17, .int .i64 1, .int .i64 58] 3)).drew.trans (hB3.mono (by simp))
                   have y3 : w3.cell? ⟨wk.heap.size, 0, none⟩ = some (.int .i64 6) := (hB3.cell (p := ⟨wk.heap.size, 0, none⟩) (by simp)).trans ((cell_of_block (alloc_block_new wk (.cells #[.int .i64 6, .int .i64 17, .int .i64 1, .int .i64 58] 3)) 0).trans rfl)
                   have hw3 : wk.heap.size < w3.heap.size := by have := hB3.size; simp at this; omega
                   clear hB3; dsimp only)
                | (go_simp; go_at_call 16; (first | with_reducible refine Calls.mono (hf1.out w3) ?_ | with_reducible refine Calls.mono (hf2.out w3) ?_); rintro e w4 ⟨rfl, hB4⟩
                   have HB4 : Hid (Below wk.heap.size wk w4) := HB3.out.trans (hB4.mono HB3.out.size)
                   try (have y4 : w4.cell? ⟨wk.heap.size, 0, none⟩ = some (.int .i64 6) := (hB4.cell (p := ⟨wk.heap.size, 0, none⟩) hw3).trans y3)
                   clear hB4; dsimp only)
                | (go_simp; go_at_call 16; (first | with_reducible refine Calls.mono (hf1.out (w3.alloc _)) ?_ | with_reducible refine Calls.mono (hf2.out (w3.alloc _)) ?_); rintro e w4 ⟨rfl, hB4⟩
                   have HB4 : Hid (Below wk.heap.size wk w4) := (HB3.out.alloc HB3.out.size _).trans (hB4.mono (by have := HB3.out.size; simp; omega))
                   have y4 : w4.cell? ⟨w3.heap.size, 0, none⟩ = some (.int .i64 6) := (hB4.cell (p := ⟨w3.heap.size, 0, none⟩) (by simp)).trans ((cell_of_block (alloc_block_new w3 (.cells #[.int .i64 6, .int .i64 17, .int .i64 1, .int .i64 58] 3)) 0).trans rfl)
                   clear hB4; dsimp only))
            all_goals
              obtain ⟨ua, uc, rfl⟩ := own_shape hown'
              have hs4 := HB4.out.size
              have hO : Only (fun q => (Value.slice va k vc).ownBlock = some q) wk w' := by with_reducible first | exact (((Below.only HB4.out _).alloc _).alloc _).grown hg' (fun q hq _ => hq) | exact ((Below.only HB4.out _).alloc _).grown hg' (fun q hq _ => hq)
              have hge : ∀ q, (Value.slice ua (k + 1) uc).ownBlock = some q → w1.heap.size ≤ q := fun q hq => by
                rcases hb' with h | h
                · rw [h] at hq; exact own_ge HROW.out q hq
                · rw [h] at hq; injection hq with hq; simp at hq; omega
              have HN : Hid (K2Rel w1 (.int .i64 (k + 1 : Nat)) (.slice ua (k + 1) uc) w') := ⟨k + 1, ks ++ [kk], rfl, by omega, by rw [List.length_append, HK.out.1]; rfl, fun x hx => by
                rcases List.mem_append.1 hx with h | h
                · exact HK.out.2.1 x h
                · simp at h; rw [h]; exact hkok, by
                rw [kCells_app]
                simpa [kCells] using own_raise hown' hge, HBK.out.trans (hO.below (B := w1.heap.size) hBks (fun q hq e => by have := own_ge HROW.out q e; omega))⟩
              clear hO hge hown' hg' hb' HB3 HB4
              go_simp
              go_wp2_with fail
              go_roundw
              case rel => exact HN.out
              case measure => simp [intOf]; omega
          · have hf1 : Hid (∀ w, Calls Try.prog 16 #[.int .u8 10, .int .u8 ((n : Int) % 256), .int .u8 0, .int .u8 k] w fun e w' => e = .returned (.agg (fourA 10 (n % 256) 0 (k % 256)).arr) ∧ Below w.heap.size w w') := fun w => by
              have h := four_is (a := 10) (b := n % 256) (c := 0) (d := k) (by decide) (by omega) (by decide) (by omega) w
              rw [show k % 256 = k by omega]
              exact h
            have hbk : ∀ w, (buildRow 28 #[(0, .agg (fourA 10 (n % 256) 0 (k % 256)).arr), (1, .agg (fourA 9 9 9 (n % 256)).arr), (2, .int .u8 17), (3, .int .u16 ((k : Int) * 9)), (4, .int .u16 n)]).run Try.prog w = .ok (.agg (keyOf n k 17).arr) w := fun w => built_key n k 17 w
            have hkok : (keyOf n k 17).Ok := keyOf_ok (by decide)
            have hbs := built_kys hkok
            generalize keyOf n k 17 = kk at *
            have wk8 : IntKind.u8.wrap (k : Int) = k := IntWalk.u8_in _ (by omega)
            have wp8 : IntKind.u8.wrap (17 : Int) = 17 := rfl
            have ws16 : IntKind.u16.wrap (IntKind.i64.wrap ((k : Int) * 9)) = (k : Int) * 9 := by rw [IntWalk.i64_in _ (by omega), IntWalk.u16_in _ (by omega)]
            have hkt : Int.tmod (k : Int) 4 = 1 := by rw [Int.tmod_eq_emod_of_nonneg (by omega)]; exact hk4
            go_upto_region 9 with (fail)
            go_region_law (first
                | (refine step_append_row rfl (.tmp 19) (.tmp 40) 53 rfl 28 i0 (.agg Ky.zero.arr) 37 40 Try.underlying53 hi0 hz0 hz1 hz2 (by kernel_rfl) (by decide) (.slice va k vc) k (kCells ks) ?_ ?_ ⟨w4.heap.size + 1, 0, none⟩ 1 1 kk.cs ?_ (by rw [hkok.len]) ?_ kk.one (by unfold maxLen; omega) (by omega) ?_
                   · simp [go_sem]
                   · with_reducible exact ((own_lower9 (own_kept HROW.out HB4.out)).alloc _).alloc _
                   · simp [go_sem]
                   · exact fun j u hj => by rw [Addr.add_lit]; exact range_block (alloc_block_at _ (.cells kk.arr 28) (by simp)) j u hj
                   intro v' w' hown' hg' hb')
                | (refine step_append_row rfl (.tmp 19) (.tmp 40) 53 rfl 28 i0 (.agg Ky.zero.arr) 37 40 Try.underlying53 hi0 hz0 hz1 hz2 (by kernel_rfl) (by decide) (.slice va k vc) k (kCells ks) ?_ ?_ ⟨w4.heap.size, 0, none⟩ 1 1 kk.cs ?_ (by rw [hkok.len]) ?_ kk.one (by unfold maxLen; omega) (by omega) ?_
                   · simp [go_sem]
                   · with_reducible exact (own_lower9 (own_kept HROW.out HB4.out)).alloc _
                   · simp [go_sem]
                   · exact fun j u hj => by rw [Addr.add_lit]; exact range_block (alloc_block_new w4 (.cells kk.arr 28)) j u hj
                   intro v' w' hown' hg' hb')
                | (go_simp; go_at_call 16; (first | with_reducible refine Calls.mono (hf1.out wk.drew) ?_ | with_reducible refine Calls.mono (hf2.out wk.drew) ?_); rintro e w3 ⟨rfl, hB3⟩
                   have HB3 : Hid (Below wk.heap.size wk w3) := (Below.refl wk.heap.size wk).drew.trans hB3; clear hB3; dsimp only)
                | (go_simp; go_at_call 16; (first | with_reducible refine Calls.mono (hf1.out (wk.alloc _).drew) ?_ | with_reducible refine Calls.mono (hf2.out (wk.alloc _).drew) ?_); rintro e w3 ⟨rfl, hB3⟩
                   have HB3 : Hid (Below wk.heap.size wk w3) := ((Below.refl wk.heap.size wk).alloc (Nat.le_refl _) (.cells #[.int .i64 6, .int .i64 17, .int .i64 1, .int .i64 58] 3)).drew.trans (hB3.mono (by simp))
                   have y3 : w3.cell? ⟨wk.heap.size, 1, none⟩ = some (.int .i64 17) := (hB3.cell (p := ⟨wk.heap.size, 1, none⟩) (by simp)).trans ((cell_of_block (alloc_block_new wk (.cells #[.int .i64 6, .int .i64 17, .int .i64 1, .int .i64 58] 3)) 1).trans rfl)
                   have hw3 : wk.heap.size < w3.heap.size := by have := hB3.size; simp at this; omega
                   clear hB3; dsimp only)
                | (go_simp; go_at_call 16; (first | with_reducible refine Calls.mono (hf1.out w3) ?_ | with_reducible refine Calls.mono (hf2.out w3) ?_); rintro e w4 ⟨rfl, hB4⟩
                   have HB4 : Hid (Below wk.heap.size wk w4) := HB3.out.trans (hB4.mono HB3.out.size)
                   try (have y4 : w4.cell? ⟨wk.heap.size, 1, none⟩ = some (.int .i64 17) := (hB4.cell (p := ⟨wk.heap.size, 1, none⟩) hw3).trans y3)
                   clear hB4; dsimp only)
                | (go_simp; go_at_call 16; (first | with_reducible refine Calls.mono (hf1.out (w3.alloc _)) ?_ | with_reducible refine Calls.mono (hf2.out (w3.alloc _)) ?_); rintro e w4 ⟨rfl, hB4⟩
                   have HB4 : Hid (Below wk.heap.size wk w4) := (HB3.out.alloc HB3.out.size _).trans (hB4.mono (by have := HB3.out.size; simp; omega))
                   have y4 : w4.cell? ⟨w3.heap.size, 1, none⟩ = some (.int .i64 17) := (hB4.cell (p := ⟨w3.heap.size, 1, none⟩) (by simp)).trans ((cell_of_block (alloc_block_new w3 (.cells #[.int .i64 6, .int .i64 17, .int .i64 1, .int .i64 58] 3)) 1).trans rfl)
                   clear hB4; dsimp only))
            all_goals
              obtain ⟨ua, uc, rfl⟩ := own_shape hown'
              have hs4 := HB4.out.size
              have hO : Only (fun q => (Value.slice va k vc).ownBlock = some q) wk w' := by with_reducible first | exact (((Below.only HB4.out _).alloc _).alloc _).grown hg' (fun q hq _ => hq) | exact ((Below.only HB4.out _).alloc _).grown hg' (fun q hq _ => hq)
              have hge : ∀ q, (Value.slice ua (k + 1) uc).ownBlock = some q → w1.heap.size ≤ q := fun q hq => by
                rcases hb' with h | h
                · rw [h] at hq; exact own_ge HROW.out q hq
                · rw [h] at hq; injection hq with hq; simp at hq; omega
              have HN : Hid (K2Rel w1 (.int .i64 (k + 1 : Nat)) (.slice ua (k + 1) uc) w') := ⟨k + 1, ks ++ [kk], rfl, by omega, by rw [List.length_append, HK.out.1]; rfl, fun x hx => by
                rcases List.mem_append.1 hx with h | h
                · exact HK.out.2.1 x h
                · simp at h; rw [h]; exact hkok, by
                rw [kCells_app]
                simpa [kCells] using own_raise hown' hge, HBK.out.trans (hO.below (B := w1.heap.size) hBks (fun q hq e => by have := own_ge HROW.out q e; omega))⟩
              clear hO hge hown' hg' hb' HB3 HB4
              go_simp
              go_wp2_with fail
              go_roundw
              case rel => exact HN.out
              case measure => simp [intOf]; omega
          · have hf1 : Hid (∀ w, Calls Try.prog 16 #[.int .u8 10, .int .u8 ((n : Int) % 256), .int .u8 0, .int .u8 k] w fun e w' => e = .returned (.agg (fourA 10 (n % 256) 0 (k % 256)).arr) ∧ Below w.heap.size w w') := fun w => by
              have h := four_is (a := 10) (b := n % 256) (c := 0) (d := k) (by decide) (by omega) (by decide) (by omega) w
              rw [show k % 256 = k by omega]
              exact h
            have hbk : ∀ w, (buildRow 28 #[(0, .agg (fourA 10 (n % 256) 0 (k % 256)).arr), (1, .agg (fourA 9 9 9 (n % 256)).arr), (2, .int .u8 1), (3, .int .u16 ((k : Int) * 9)), (4, .int .u16 n)]).run Try.prog w = .ok (.agg (keyOf n k 1).arr) w := fun w => built_key n k 1 w
            have hkok : (keyOf n k 1).Ok := keyOf_ok (by decide)
            have hbs := built_kys hkok
            generalize keyOf n k 1 = kk at *
            have wk8 : IntKind.u8.wrap (k : Int) = k := IntWalk.u8_in _ (by omega)
            have wp8 : IntKind.u8.wrap (1 : Int) = 1 := rfl
            have ws16 : IntKind.u16.wrap (IntKind.i64.wrap ((k : Int) * 9)) = (k : Int) * 9 := by rw [IntWalk.i64_in _ (by omega), IntWalk.u16_in _ (by omega)]
            have hkt : Int.tmod (k : Int) 4 = 2 := by rw [Int.tmod_eq_emod_of_nonneg (by omega)]; exact hk4
            go_upto_region 9 with (fail)
            go_region_law (first
                | (refine step_append_row rfl (.tmp 19) (.tmp 40) 53 rfl 28 i0 (.agg Ky.zero.arr) 37 40 Try.underlying53 hi0 hz0 hz1 hz2 (by kernel_rfl) (by decide) (.slice va k vc) k (kCells ks) ?_ ?_ ⟨w4.heap.size + 1, 0, none⟩ 1 1 kk.cs ?_ (by rw [hkok.len]) ?_ kk.one (by unfold maxLen; omega) (by omega) ?_
                   · simp [go_sem]
                   · with_reducible exact ((own_lower9 (own_kept HROW.out HB4.out)).alloc _).alloc _
                   · simp [go_sem]
                   · exact fun j u hj => by rw [Addr.add_lit]; exact range_block (alloc_block_at _ (.cells kk.arr 28) (by simp)) j u hj
                   intro v' w' hown' hg' hb')
                | (refine step_append_row rfl (.tmp 19) (.tmp 40) 53 rfl 28 i0 (.agg Ky.zero.arr) 37 40 Try.underlying53 hi0 hz0 hz1 hz2 (by kernel_rfl) (by decide) (.slice va k vc) k (kCells ks) ?_ ?_ ⟨w4.heap.size, 0, none⟩ 1 1 kk.cs ?_ (by rw [hkok.len]) ?_ kk.one (by unfold maxLen; omega) (by omega) ?_
                   · simp [go_sem]
                   · with_reducible exact (own_lower9 (own_kept HROW.out HB4.out)).alloc _
                   · simp [go_sem]
                   · exact fun j u hj => by rw [Addr.add_lit]; exact range_block (alloc_block_new w4 (.cells kk.arr 28)) j u hj
                   intro v' w' hown' hg' hb')
                | (go_simp; go_at_call 16; (first | with_reducible refine Calls.mono (hf1.out wk.drew) ?_ | with_reducible refine Calls.mono (hf2.out wk.drew) ?_); rintro e w3 ⟨rfl, hB3⟩
                   have HB3 : Hid (Below wk.heap.size wk w3) := (Below.refl wk.heap.size wk).drew.trans hB3; clear hB3; dsimp only)
                | (go_simp; go_at_call 16; (first | with_reducible refine Calls.mono (hf1.out (wk.alloc _).drew) ?_ | with_reducible refine Calls.mono (hf2.out (wk.alloc _).drew) ?_); rintro e w3 ⟨rfl, hB3⟩
                   have HB3 : Hid (Below wk.heap.size wk w3) := ((Below.refl wk.heap.size wk).alloc (Nat.le_refl _) (.cells #[.int .i64 6, .int .i64 17, .int .i64 1, .int .i64 58] 3)).drew.trans (hB3.mono (by simp))
                   have y3 : w3.cell? ⟨wk.heap.size, 2, none⟩ = some (.int .i64 1) := (hB3.cell (p := ⟨wk.heap.size, 2, none⟩) (by simp)).trans ((cell_of_block (alloc_block_new wk (.cells #[.int .i64 6, .int .i64 17, .int .i64 1, .int .i64 58] 3)) 2).trans rfl)
                   have hw3 : wk.heap.size < w3.heap.size := by have := hB3.size; simp at this; omega
                   clear hB3; dsimp only)
                | (go_simp; go_at_call 16; (first | with_reducible refine Calls.mono (hf1.out w3) ?_ | with_reducible refine Calls.mono (hf2.out w3) ?_); rintro e w4 ⟨rfl, hB4⟩
                   have HB4 : Hid (Below wk.heap.size wk w4) := HB3.out.trans (hB4.mono HB3.out.size)
                   try (have y4 : w4.cell? ⟨wk.heap.size, 2, none⟩ = some (.int .i64 1) := (hB4.cell (p := ⟨wk.heap.size, 2, none⟩) hw3).trans y3)
                   clear hB4; dsimp only)
                | (go_simp; go_at_call 16; (first | with_reducible refine Calls.mono (hf1.out (w3.alloc _)) ?_ | with_reducible refine Calls.mono (hf2.out (w3.alloc _)) ?_); rintro e w4 ⟨rfl, hB4⟩
                   have HB4 : Hid (Below wk.heap.size wk w4) := (HB3.out.alloc HB3.out.size _).trans (hB4.mono (by have := HB3.out.size; simp; omega))
                   have y4 : w4.cell? ⟨w3.heap.size, 2, none⟩ = some (.int .i64 1) := (hB4.cell (p := ⟨w3.heap.size, 2, none⟩) (by simp)).trans ((cell_of_block (alloc_block_new w3 (.cells #[.int .i64 6, .int .i64 17, .int .i64 1, .int .i64 58] 3)) 2).trans rfl)
                   clear hB4; dsimp only))
            all_goals
              obtain ⟨ua, uc, rfl⟩ := own_shape hown'
              have hs4 := HB4.out.size
              have hO : Only (fun q => (Value.slice va k vc).ownBlock = some q) wk w' := by with_reducible first | exact (((Below.only HB4.out _).alloc _).alloc _).grown hg' (fun q hq _ => hq) | exact ((Below.only HB4.out _).alloc _).grown hg' (fun q hq _ => hq)
              have hge : ∀ q, (Value.slice ua (k + 1) uc).ownBlock = some q → w1.heap.size ≤ q := fun q hq => by
                rcases hb' with h | h
                · rw [h] at hq; exact own_ge HROW.out q hq
                · rw [h] at hq; injection hq with hq; simp at hq; omega
              have HN : Hid (K2Rel w1 (.int .i64 (k + 1 : Nat)) (.slice ua (k + 1) uc) w') := ⟨k + 1, ks ++ [kk], rfl, by omega, by rw [List.length_append, HK.out.1]; rfl, fun x hx => by
                rcases List.mem_append.1 hx with h | h
                · exact HK.out.2.1 x h
                · simp at h; rw [h]; exact hkok, by
                rw [kCells_app]
                simpa [kCells] using own_raise hown' hge, HBK.out.trans (hO.below (B := w1.heap.size) hBks (fun q hq e => by have := own_ge HROW.out q e; omega))⟩
              clear hO hge hown' hg' hb' HB3 HB4
              go_simp
              go_wp2_with fail
              go_roundw
              case rel => exact HN.out
              case measure => simp [intOf]; omega
          · have hf1 : Hid (∀ w, Calls Try.prog 16 #[.int .u8 10, .int .u8 ((n : Int) % 256), .int .u8 0, .int .u8 k] w fun e w' => e = .returned (.agg (fourA 10 (n % 256) 0 (k % 256)).arr) ∧ Below w.heap.size w w') := fun w => by
              have h := four_is (a := 10) (b := n % 256) (c := 0) (d := k) (by decide) (by omega) (by decide) (by omega) w
              rw [show k % 256 = k by omega]
              exact h
            have hbk : ∀ w, (buildRow 28 #[(0, .agg (fourA 10 (n % 256) 0 (k % 256)).arr), (1, .agg (fourA 9 9 9 (n % 256)).arr), (2, .int .u8 58), (3, .int .u16 ((k : Int) * 9)), (4, .int .u16 n)]).run Try.prog w = .ok (.agg (keyOf n k 58).arr) w := fun w => built_key n k 58 w
            have hkok : (keyOf n k 58).Ok := keyOf_ok (by decide)
            have hbs := built_kys hkok
            generalize keyOf n k 58 = kk at *
            have wk8 : IntKind.u8.wrap (k : Int) = k := IntWalk.u8_in _ (by omega)
            have wp8 : IntKind.u8.wrap (58 : Int) = 58 := rfl
            have ws16 : IntKind.u16.wrap (IntKind.i64.wrap ((k : Int) * 9)) = (k : Int) * 9 := by rw [IntWalk.i64_in _ (by omega), IntWalk.u16_in _ (by omega)]
            have hkt : Int.tmod (k : Int) 4 = 3 := by rw [Int.tmod_eq_emod_of_nonneg (by omega)]; exact hk4
            go_upto_region 9 with (fail)
            go_region_law (first
                | (refine step_append_row rfl (.tmp 19) (.tmp 40) 53 rfl 28 i0 (.agg Ky.zero.arr) 37 40 Try.underlying53 hi0 hz0 hz1 hz2 (by kernel_rfl) (by decide) (.slice va k vc) k (kCells ks) ?_ ?_ ⟨w4.heap.size + 1, 0, none⟩ 1 1 kk.cs ?_ (by rw [hkok.len]) ?_ kk.one (by unfold maxLen; omega) (by omega) ?_
                   · simp [go_sem]
                   · with_reducible exact ((own_lower9 (own_kept HROW.out HB4.out)).alloc _).alloc _
                   · simp [go_sem]
                   · exact fun j u hj => by rw [Addr.add_lit]; exact range_block (alloc_block_at _ (.cells kk.arr 28) (by simp)) j u hj
                   intro v' w' hown' hg' hb')
                | (refine step_append_row rfl (.tmp 19) (.tmp 40) 53 rfl 28 i0 (.agg Ky.zero.arr) 37 40 Try.underlying53 hi0 hz0 hz1 hz2 (by kernel_rfl) (by decide) (.slice va k vc) k (kCells ks) ?_ ?_ ⟨w4.heap.size, 0, none⟩ 1 1 kk.cs ?_ (by rw [hkok.len]) ?_ kk.one (by unfold maxLen; omega) (by omega) ?_
                   · simp [go_sem]
                   · with_reducible exact (own_lower9 (own_kept HROW.out HB4.out)).alloc _
                   · simp [go_sem]
                   · exact fun j u hj => by rw [Addr.add_lit]; exact range_block (alloc_block_new w4 (.cells kk.arr 28)) j u hj
                   intro v' w' hown' hg' hb')
                | (go_simp; go_at_call 16; (first | with_reducible refine Calls.mono (hf1.out wk.drew) ?_ | with_reducible refine Calls.mono (hf2.out wk.drew) ?_); rintro e w3 ⟨rfl, hB3⟩
                   have HB3 : Hid (Below wk.heap.size wk w3) := (Below.refl wk.heap.size wk).drew.trans hB3; clear hB3; dsimp only)
                | (go_simp; go_at_call 16; (first | with_reducible refine Calls.mono (hf1.out (wk.alloc _).drew) ?_ | with_reducible refine Calls.mono (hf2.out (wk.alloc _).drew) ?_); rintro e w3 ⟨rfl, hB3⟩
                   have HB3 : Hid (Below wk.heap.size wk w3) := ((Below.refl wk.heap.size wk).alloc (Nat.le_refl _) (.cells #[.int .i64 6, .int .i64 17, .int .i64 1, .int .i64 58] 3)).drew.trans (hB3.mono (by simp))
                   have y3 : w3.cell? ⟨wk.heap.size, 3, none⟩ = some (.int .i64 58) := (hB3.cell (p := ⟨wk.heap.size, 3, none⟩) (by simp)).trans ((cell_of_block (alloc_block_new wk (.cells #[.int .i64 6, .int .i64 17, .int .i64 1, .int .i64 58] 3)) 3).trans rfl)
                   have hw3 : wk.heap.size < w3.heap.size := by have := hB3.size; simp at this; omega
                   clear hB3; dsimp only)
                | (go_simp; go_at_call 16; (first | with_reducible refine Calls.mono (hf1.out w3) ?_ | with_reducible refine Calls.mono (hf2.out w3) ?_); rintro e w4 ⟨rfl, hB4⟩
                   have HB4 : Hid (Below wk.heap.size wk w4) := HB3.out.trans (hB4.mono HB3.out.size)
                   try (have y4 : w4.cell? ⟨wk.heap.size, 3, none⟩ = some (.int .i64 58) := (hB4.cell (p := ⟨wk.heap.size, 3, none⟩) hw3).trans y3)
                   clear hB4; dsimp only)
                | (go_simp; go_at_call 16; (first | with_reducible refine Calls.mono (hf1.out (w3.alloc _)) ?_ | with_reducible refine Calls.mono (hf2.out (w3.alloc _)) ?_); rintro e w4 ⟨rfl, hB4⟩
                   have HB4 : Hid (Below wk.heap.size wk w4) := (HB3.out.alloc HB3.out.size _).trans (hB4.mono (by have := HB3.out.size; simp; omega))
                   have y4 : w4.cell? ⟨w3.heap.size, 3, none⟩ = some (.int .i64 58) := (hB4.cell (p := ⟨w3.heap.size, 3, none⟩) (by simp)).trans ((cell_of_block (alloc_block_new w3 (.cells #[.int .i64 6, .int .i64 17, .int .i64 1, .int .i64 58] 3)) 3).trans rfl)
                   clear hB4; dsimp only))
            all_goals
              obtain ⟨ua, uc, rfl⟩ := own_shape hown'
              have hs4 := HB4.out.size
              have hO : Only (fun q => (Value.slice va k vc).ownBlock = some q) wk w' := by with_reducible first | exact (((Below.only HB4.out _).alloc _).alloc _).grown hg' (fun q hq _ => hq) | exact ((Below.only HB4.out _).alloc _).grown hg' (fun q hq _ => hq)
              have hge : ∀ q, (Value.slice ua (k + 1) uc).ownBlock = some q → w1.heap.size ≤ q := fun q hq => by
                rcases hb' with h | h
                · rw [h] at hq; exact own_ge HROW.out q hq
                · rw [h] at hq; injection hq with hq; simp at hq; omega
              have HN : Hid (K2Rel w1 (.int .i64 (k + 1 : Nat)) (.slice ua (k + 1) uc) w') := ⟨k + 1, ks ++ [kk], rfl, by omega, by rw [List.length_append, HK.out.1]; rfl, fun x hx => by
                rcases List.mem_append.1 hx with h | h
                · exact HK.out.2.1 x h
                · simp at h; rw [h]; exact hkok, by
                rw [kCells_app]
                simpa [kCells] using own_raise hown' hge, HBK.out.trans (hO.below (B := w1.heap.size) hBks (fun q hq e => by have := own_ge HROW.out q e; omega))⟩
              clear hO hge hown' hg' hb' HB3 HB4
              go_simp
              go_wp2_with fail
              go_roundw
              case rel => exact HN.out
              case measure => simp [intOf]; omega
        · obtain rfl : k = 8 := by omega
          obtain ⟨va, vc, rfl⟩ := own_shape hrow
          have hrow8 : OwnKeys wr w1.heap.size (.slice va 8 vc) ks := by show World.ownsRow _ _ _ _ _ _ _; rw [hkl]; exact hrow
          obtain ⟨k7, hk7⟩ : ∃ x, ks[7]? = some x := ⟨_, List.getElem?_eq_getElem (by omega)⟩
          obtain ⟨k6, hk6⟩ : ∃ x, ks[6]? = some x := ⟨_, List.getElem?_eq_getElem (by omega)⟩
          obtain ⟨g, gc, e1, hgB, hgl, ⟨x7, hx7⟩, hf7, hr7⟩ := own_kset hrow8 hok hk7 (ky_src6 k7) (by decide)
          injection e1 with e1 e2 e3
          subst e1
          subst e3
          have hok7 : ∀ x ∈ ks.set 7 { k7 with src := { k7.src with six := true } }, x.Ok := fun x hx => (List.mem_or_eq_of_mem_set hx).elim (hok x) (fun e => by rw [e]; have := hok k7 (List.mem_of_getElem? hk7); exact ⟨this.s, this.d, this.p⟩)
          have hok6 := hok k6 (List.mem_of_getElem? hk6)
          have hk6' : (ks.set 7 { k7 with src := { k7.src with six := true } })[6]? = some k6 := by rw [List.getElem?_set_ne (by decide)]; exact hk6
          obtain ⟨g6, _, e6, _, _, ⟨x6, hx6⟩, hf6, _⟩ := own_kset hrow8 hok hk6 (ky_dst6 hok6) (by decide)
          injection e6 with e6 e62 e63
          clear e62 e63
          injection e6 with e6
          injection e6 with e6
          subst e6
          obtain ⟨g7, _, e7, _, _, _, _, hr6⟩ := own_kset hr7 hok7 hk6' (ky_dst6 hok6) (by decide)
          injection e7 with e7 e72 e73
          clear e72 e73
          injection e7 with e7
          injection e7 with e7
          subst e7
          have hok6' : ∀ x ∈ (ks.set 7 { k7 with src := { k7.src with six := true } }).set 6 { k6 with dst := { k6.dst with six := true } }, x.Ok := fun x hx => (List.mem_or_eq_of_mem_set hx).elim (hok7 x) (fun e => by rw [e]; exact ⟨hok6.s, hok6.d, hok6.p⟩)
          have hlen2 : ((ks.set 7 { k7 with src := { k7.src with six := true } }).set 6 { k6 with dst := { k6.dst with six := true } }).length = 8 := by rw [List.length_set, List.length_set]; exact hkl
          have hKt := OwnKeys.keys hr6 hok6'
          have y0 : wr.cell? ⟨g, 259, none⟩ = some x7 := hx7
          have y1 : wr.frozen? ⟨g, 259, none⟩ = false := hf7
          have y2 : wr.cell? ⟨g, 239, none⟩ = some x6 := hx6
          have y3 : wr.frozen? ⟨g, 239, none⟩ = false := hf6
          have hBt : Below w1.heap.size w1 ((wr.setCell ⟨g, 259, none⟩ (.bool true)).setCell ⟨g, 239, none⟩ (.bool true)) := (hBk.setCell (p := ⟨g, 259, none⟩) hgB _).setCell (p := ⟨g, 239, none⟩) hgB _
          change Keys ((wr.setCell ⟨g, 259, none⟩ (.bool true)).setCell ⟨g, 239, none⟩ (.bool true)) (.slice (some ⟨g, 0, none⟩) 8 vc) _ at hKt
          generalize (ks.set 7 { k7 with src := { k7.src with six := true } }).set 6 { k6 with dst := { k6.dst with six := true } } = kz at *
          clear hx7 hf7 hx6 hf6 hr6 hr7 hrow hrow8 hok7 hok6 hk7 hk6 hk6' hok e2 hBk hk8 hkl hk
          go_upto_region 12 with (fail)
          generalize (wr.setCell ⟨g, 259, none⟩ (.bool true)).setCell ⟨g, 239, none⟩ (.bool true) = wt at *
          have HKt := Lib.hid hKt
          have HBt := Lib.hid (H1.out.2.2.trans (hBt.mono H1.out.2.2.size))
          have HLt := Lib.hid (H1.out.1.below hBt)
          clear hKt hBt y0 y1 y2 y3
          have hkz := hlen2
          go_wp2_with fail
          refine (plays_any _ _ _ HLt.out H1.out.2.1 HKt.out (by omega) (by omega)).mono ?_
          rintro e w2 ⟨rfl, hB2⟩
          have HB2 := Lib.hid hB2
          clear hB2
          go_wp2_with fail
          refine (sample_is _).mono ?_
          rintro e w3 ⟨g2, rfl, hg2, hB3⟩
          have hS3 := rules_block (c := 2) (n := 2) oks2 hg2 rfl
          have HB3 := Lib.hid (HB2.out.trans (hB3.mono HB2.out.size))
          have HS3 := Lib.hid hS3
          clear hB3 hg2 hS3
          go_wp2_with fail
          refine (plays_any _ _ _ HS3.out (rz_some _ _ _) (HKt.out.below HB3.out) (by decide) (by omega)).mono ?_
          rintro e w4 ⟨rfl, hB4⟩
          have HB4 := Lib.hid (HB3.out.trans (hB4.mono HB3.out.size))
          clear hB4 HS3
          obtain ⟨kk, hkk⟩ : ∃ x, kz[n % 8]? = some x := ⟨_, List.getElem?_eq_getElem (by omega)⟩
          obtain ⟨hkkok, hgt, hkkr⟩ := HKt.out.at hkk
          have HKL : Hid (∀ w', Below wt.heap.size wt w' → (loadRow 28 (.pointer (some ⟨g, n % 8 * 37, none⟩))).run Try.prog w' = .ok (.agg kk.arr) w') := fun w' h => row_ky hkkok (range_below hkkr hgt h)
          have q0 : (0 : Int) ≤ (n : Int) % 8 := by omega
          have q1 : (n : Int) % 8 < 8 := by omega
          have q2 : ((n : Int) % 8).toNat = n % 8 := by omega
          have l4 := HKL.out w4 HB4.out
          clear hkk hkkr
          go_wp2_with fail
          refine (leaves_any _ _ _ _ (HLt.out.below HB4.out) H1.out.2.1 hkkok).mono ?_
          rintro e w5 ⟨rfl, hB5⟩
          have HB5 := Lib.hid (HB4.out.trans (hB5.mono HB4.out.size))
          have l5 := HKL.out w5 HB5.out
          clear hB5 l4
          go_wp2_with fail
          refine (none_any hkkok _).mono ?_
          rintro e w6 ⟨rfl, hB6⟩
          have HB6 := Lib.hid (HB5.out.trans (hB6.mono HB5.out.size))
          clear hB6 l5
          go_wp2_with fail
          go_loopw [5] (K3Rel wt l.length) (fun i _ => l.length - (intOf i).toNat)
          case atStart => exact ⟨0, rfl, Nat.zero_le _, HB6.out⟩
          case round =>
            obtain ⟨q, rfl, hq, hBq⟩ := hrel
            by_cases hql : q < l.length
            · obtain ⟨r, hrq⟩ : ∃ r, l[q]? = some r := ⟨_, List.getElem?_eq_getElem hql⟩
              obtain ⟨kq, hkq⟩ : ∃ x, kz[q]? = some x := ⟨_, List.getElem?_eq_getElem (by omega)⟩
              obtain ⟨hkqok, _, hkqr⟩ := HKt.out.at hkq
              obtain ⟨_, _, e1, _, hrw⟩ := HLt.out
              injection e1 with e1 e12 e13
              clear e12
              subst e1
              subst e13
              obtain ⟨rb, ro, rfl, hrb, hAr⟩ := hrw (by omega)
              obtain ⟨hrok, hrr⟩ := hAr q r hrq
              have hqi : (q : Int) < (l.length : Int) := by omega
              have hq8 : (q : Int) < 8 := by omega
              have HBq := Lib.hid hBq
              have hgq : g < wr.heap.size := Nat.lt_of_lt_of_le hgt hBq.size
              have hrbq : rb < wr.heap.size := Nat.lt_of_lt_of_le hrb hBq.size
              have hr2 := range_below hrr hrb hBq
              have hk2 := range_below hkqr hgt hBq
              obtain ⟨wq, rfl⟩ : ∃ wo : World, wo = wr := ⟨_, rfl⟩
              have k0 : ∀ z : Wld (fun x => Below wq.heap.size wq x), (loadRow 43 (.pointer (some ⟨rb, ro + q * 44, none⟩))).run Try.prog z.w = .ok (.agg r.arr) z.w := fun z => row_ru hrok (range_below hr2 hrbq z.ok)
              have k1 : ∀ z : Wld (fun x => Below wq.heap.size wq x), (loadRow 28 (.pointer (some ⟨g, q * 37, none⟩))).run Try.prog z.w = .ok (.agg kq.arr) z.w := fun z => row_ky hkqok (range_below hk2 hgq z.ok)
              haveI hne : Nonempty (Wld (fun x => Below wq.heap.size wq x)) := ⟨⟨wq, Below.refl _ _⟩⟩
              clear hBq hrw hAr hrr hkqr hr2 hk2 hrq hkq
              go_upto_region 17 with (fail)
              refine region_class (fun x => Below wq.heap.size wq x) (by kernel_rfl) (by kernel_rfl) (Below.refl _ _).drew ?_
              repeat (go_big_quiet_step ((rename_i z; go_at_call 19; with_reducible refine Calls.mono (tells_any hrok hkqok _) ?_; rintro e w' ⟨he, hb⟩; exact ⟨he, ⟨w', z.ok.trans (hb.mono z.ok.size)⟩, rfl⟩)))
              refine wpQuiet_nil ?_
              intro w7 hB7
              have HN : Hid (K3Rel wt l.length (.int .i64 (q + 1 : Nat)) w7) := ⟨q + 1, rfl, hql, HBq.out.trans (hB7.mono HBq.out.size)⟩
              clear hB7 k0 k1 hne
              go_wp2_with fail
              go_roundw
              case rel => exact HN.out
              case measure => simp [intOf]; omega
            · have HN : Hid (K1Rel w (.int .i64 (n + 1 : Nat)) wr) := ⟨n + 1, rfl, hlt, HBt.out.trans (hBq.mono HBt.out.size)⟩
              obtain rfl : q = l.length := by omega
              clear hBq
              go_wp2_with fail
              go_roundw
              case rel => exact HN.out
              case measure => simp [intOf]; omega
    · have HB := Lib.hid hB
      have hni : ¬ (n : Int) < 150 := by omega
      clear hB hlt
      obtain ⟨w0, rfl⟩ : ∃ wo : World, wo = wr := ⟨_, rfl⟩
      go_wp2_with fail
      refine (any_is _).mono ?_
      rintro e w1 ⟨rfl, hB1⟩
      have HB1 := Lib.hid (HB.out.trans (hB1.mono HB.out.size))
      clear hB1
      go_wp2_with (first | (refine wpList_store_blk rfl 43 (.tmp 6) (.tmp 110) rfl w1.heap.size Ru.any.arr rfl rfl 43 Ru.zero.arr (alloc_block_new w1 (.cells Ru.zero.arr 43)) (by kernel_rfl) rfl (by kernel_rfl) ?_))
      intro w2 hS
      have hB2 : Below w1.heap.size w1 w2 := ((Below.refl _ _).alloc (Nat.le_refl _) (.cells Ru.zero.arr 43)).trans (hS.only.below (by simp) (fun k hk e => by omega))
      have g2 := hS.blk
      have hge1 : w.heap.size ≤ w1.heap.size := HB1.out.size
      have HB2 := Lib.hid (HB1.out.trans (hB2.mono HB1.out.size))
      generalize w1.heap.size = b at *
      have c0 : w2.cell? ⟨b, 38, none⟩ = some (.int .u16 0) := cell_of_block g2 38
      have c1 : w2.cell? ⟨b, 39, none⟩ = some (.int .u16 65535) := cell_of_block g2 39
      have f0 : w2.frozen? ⟨b, 38, none⟩ = false := free_of_block g2 38
      have f1 : w2.frozen? ⟨b, 39, none⟩ = false := free_of_block g2 39
      clear hS hB2
      go_upto_region 21 with (fail)
      have g3 : ((w2.setCell ⟨b, 38, none⟩ (.int .u16 5)).setCell ⟨b, 39, none⟩ (.int .u16 4)).heap[b]? = some (.cells oddR.arr 43 (0, 0)) := setCell_block (setCell_block g2 38 (.int .u16 5)) 39 (.int .u16 4)
      have hB3 := (HB2.out.setCell (p := ⟨b, 38, none⟩) hge1 (.int .u16 5)).setCell (p := ⟨b, 39, none⟩) hge1 (.int .u16 4)
      generalize (w2.setCell ⟨b, 38, none⟩ (.int .u16 5)).setCell ⟨b, 39, none⟩ (.int .u16 4) = w3 at *
      have H3 := Lib.hid (And.intro g3 hB3)
      clear g2 g3 hB3 c0 c1 f0 f1 HB2
      go_wp2_with fail
      refine (any_is _).mono ?_
      rintro e w4 ⟨rfl, hB4⟩
      have hbl4 : b < w4.heap.size := Nat.lt_of_lt_of_le (lt_of_obj H3.out.1) hB4.size
      have H4 := Lib.hid (And.intro ((hB4.block _ (lt_of_obj H3.out.1)).trans H3.out.1) (H3.out.2.trans (hB4.mono H3.out.2.size)))
      clear hB4
      go_wp2_with (first | (refine wpList_store_blk rfl 43 (.tmp 7) (.tmp 113) rfl w4.heap.size Ru.any.arr rfl rfl 43 Ru.zero.arr (alloc_block_new w4 (.cells Ru.zero.arr 43)) (by kernel_rfl) rfl (by kernel_rfl) ?_))
      intro w5 hS
      have hB5 : Below w4.heap.size w4 w5 := ((Below.refl _ _).alloc (Nat.le_refl _) (.cells Ru.zero.arr 43)).trans (hS.only.below (by simp) (fun k hk e => by omega))
      have g5 := hS.blk
      have g5b := (hB5.block _ hbl4).trans H4.out.1
      have hge4 : w.heap.size ≤ w4.heap.size := H4.out.2.size
      have HB5 := Lib.hid (H4.out.2.trans (hB5.mono H4.out.2.size))
      generalize w4.heap.size = d at *
      have c0 : w5.cell? ⟨d, 42, none⟩ = some (.bool false) := cell_of_block g5 42
      have c1 : w5.cell? ⟨d, 43, none⟩ = some (.int .i64 0) := cell_of_block g5 43
      have f0 : w5.frozen? ⟨d, 42, none⟩ = false := free_of_block g5 42
      have f1 : w5.frozen? ⟨d, 43, none⟩ = false := free_of_block g5 43
      clear hS hB5
      go_upto_region 24 with (fail)
      have g6 : ((w5.setCell ⟨d, 42, none⟩ (.bool true)).setCell ⟨d, 43, none⟩ (.int .i64 1)).heap[d]? = some (.cells denR.arr 43 (0, 0)) := setCell_block (setCell_block g5 42 (.bool true)) 43 (.int .i64 1)
      have g6b : ((w5.setCell ⟨d, 42, none⟩ (.bool true)).setCell ⟨d, 43, none⟩ (.int .i64 1)).heap[b]? = some (.cells oddR.arr 43 (0, 0)) := (setCell_block_other _ _ (by omega)).trans ((setCell_block_other _ _ (by omega)).trans g5b)
      have hB6 := (HB5.out.setCell (p := ⟨d, 42, none⟩) hge4 (.bool true)).setCell (p := ⟨d, 43, none⟩) hge4 (.int .i64 1)
      generalize (w5.setCell ⟨d, 42, none⟩ (.bool true)).setCell ⟨d, 43, none⟩ (.int .i64 1) = w6 at *
      have HLD : Hid (∀ w', Below w6.heap.size w6 w' → (loadRow 43 (.pointer (some ⟨b, 0, none⟩))).run Try.prog w' = .ok (.agg oddR.arr) w' ∧ (loadRow 43 (.pointer (some ⟨d, 0, none⟩))).run Try.prog w' = .ok (.agg denR.arr) w') := fun w' h => ⟨row_ru oddR_ok (range_below (range_block g6b) (lt_of_obj g6b) h), row_ru denR_ok (range_below (range_block g6) (lt_of_obj g6) h)⟩
      have H6 := Lib.hid hB6
      clear g5 g5b g6 g6b hB6 c0 c1 f0 f1 HB5 H4 H3
      have hk0 := built_ky0
      have hr0 := built_ru0
      obtain ⟨C, hC, hmk⟩ := make_rules
      have HC := Lib.hid hC
      have hbo := built_rus oddR_ok
      clear hC
      have l6 := (HLD.out w6 (Below.refl _ _)).1
      have hoo := oddR_ok
      have hdo := denR_ok
      generalize oddR = OD at *
      generalize denR = DE at *
      go_wp2_with fail
      refine (tells_any hoo Ky.zero_ok _).mono ?_
      rintro e w7 ⟨rfl, hB7⟩
      have HB7 := Lib.hid hB7
      have l7 := (HLD.out w7 hB7).2
      clear hB7 l6
      go_wp2_with fail
      refine (tells_any hdo Ky.zero_ok _).mono ?_
      rintro e w8 ⟨rfl, hB8⟩
      have HB8 := Lib.hid (HB7.out.trans (hB8.mono HB7.out.size))
      clear hB8 l7
      go_wp2_with fail
      refine (tells_any Ru.zero_ok Ky.zero_ok _).mono ?_
      rintro e w9 ⟨rfl, hB9⟩
      have HB9 := Lib.hid (HB8.out.trans (hB9.mono HB8.out.size))
      clear hB9
      go_wp2_with fail
      have hR9 : Rules (w9.alloc (.cells C 43)) (.slice (some ⟨w9.heap.size, 0, none⟩) 65 65) (List.replicate 65 Ru.zero) := rules_block (fun r hr => by rw [(List.mem_replicate.1 hr).2]; exact Ru.zero_ok) (by rw [← HC.out]; exact alloc_block_new w9 (.cells C 43)) (by simp)
      refine (plays_any _ _ _ hR9 (rz_some _ _ _) (keys_nil _) (by simp) (by decide)).mono ?_
      rintro e w10 ⟨rfl, hB10⟩
      have HB10 := Lib.hid ((HB9.out.alloc HB9.out.size (.cells C 43)).trans (hB10.mono (by have := HB9.out.size; simp; omega)))
      clear hB10 hR9
      go_wp2_with fail
      refine (plays_any _ _ _ (rules_nil _) rz_nil (keys_nil _) (by decide) (by decide)).mono ?_
      rintro e w11 ⟨rfl, hB11⟩
      have HB11 := Lib.hid (HB10.out.trans (hB11.mono HB10.out.size))
      clear hB11
      go_wp2_with fail
      refine (plays_any _ _ _ (rules_nil _) rz_nil (keys_nil _) (by decide) (by decide)).mono ?_
      rintro e w12 ⟨rfl, hB12⟩
      have HB12 := Lib.hid (HB11.out.trans (hB12.mono HB11.out.size))
      have l12 := (HLD.out w12 HB12.out).1
      clear hB12
      go_wp2_with fail
      have hR12 : Rules (w12.alloc (.cells OD.arr 43)) (.slice (some ⟨w12.heap.size, 0, none⟩) 1 1) [OD] := rules_block (fun r hr => by rw [List.mem_singleton.1 hr]; exact hoo) (by rw [show (rsCells [OD]).toArray = OD.arr by simp [rsCells, Ru.arr]]; exact alloc_block_new w12 (.cells OD.arr 43)) rfl
      refine (plays_any _ _ _ hR12 (rz_some _ _ _) (keys_nil _) (by simp) (by decide)).mono ?_
      rintro e w13 ⟨rfl, hB13⟩
      have HB13 := Lib.hid ((HB12.out.alloc HB12.out.size (.cells OD.arr 43)).trans (hB13.mono (by have := HB12.out.size; simp; omega)))
      clear hB13 hR12 l12
      go_wp2_with fail
      refine (works_any _).mono ?_
      rintro e w14 ⟨rfl, hB14⟩
      have HB14 := Lib.hid (H6.out.trans ((HB13.out.trans (hB14.mono HB13.out.size)).mono H6.out.size))
      clear hB14
      go_wp2_with fail
      go_ret
      exact ⟨rfl, HB14.out⟩
end Go.Proofs.Ytcbkcalemfminaa

/- RuleTells: walked. -/
import Derived.Test.YtcbkcalemfminaaRs7
namespace Go.Proofs.Ytcbkcalemfminaa
open Go.RowKit
attribute [local go_sem ↓] load_ad load_pf load_ru load_ky load_bs load_ra load_rp load_rr load_rk build_pf build_ru build_cl build_ra build_rp build_rr build_rk rows_rr rows_ru

theorem any_fits {k : Ky} : Ru.any.fits k = true := by
  unfold Ru.fits
  rw [any_right, all6]
  have h2 : Pf.zero.isNone = true := by simp [Pf.isNone]
  have e0 : fitsP 0 Ru.any k = true := rfl
  have e1 : fitsP 1 Ru.any k = true := rfl
  have e2 : fitsP 2 Ru.any k = true := by unfold fitsP; show (Pf.zero.isNone || Pf.zero.has k.src) = true; rw [h2]; rfl
  have e3 : fitsP 3 Ru.any k = true := by unfold fitsP; show (Pf.zero.isNone || Pf.zero.has k.dst) = true; rw [h2]; rfl
  have e4 : fitsP 4 Ru.any k = true := rfl
  have e5 : fitsP 5 Ru.any k = true := rfl
  rw [e0, e1, e2, e3, e4, e5]
  rfl

set_option maxRecDepth 100000 in
set_option maxHeartbeats 1000000 in
theorem tells_any {r : Ru} {k : Ky} (hr : r.Ok) (hk : k.Ok) (w : World) :
    Calls Try.prog 19 #[.agg r.arr, .agg k.arr] w fun e w' => e = .returned (.bool true) ∧ Below w.heap.size w w' := by
  go_enter Try.func19, Try.ntmps19
  go_upto_region 1 with (fail)
  obtain ⟨hB, g0, g1⟩ := two_boxes w r.arr k.arr 43 28
  generalize (w.alloc (.cells r.arr 43)).alloc (.cells k.arr 28) = w1 at *
  have hl0 := lt_of_obj g0
  have hl1 := lt_of_obj g1
  generalize hb : w.heap.size = b at *
  have l0 := row_ru hr (range_block g0)
  have HB := Lib.hid (And.intro hb (And.intro hB (And.intro g0 g1)))
  have HBb := Lib.hid hb
  clear hb hB g0 g1
  go_wp2_with fail
  refine (drule_is hr _).mono ?_
  rintro e w2 ⟨rfl, hB2⟩
  have hs2 := hB2.size
  have H2 := Lib.hid (And.intro (HB.out.2.1.trans (hB2.mono (by omega))) (And.intro ((hB2.block _ hl0).trans HB.out.2.2.1) ((hB2.block _ hl1).trans HB.out.2.2.2)))
  clear hB2 l0
  go_wp2_with (first | (refine wpList_store_blk rfl 88 (.tmp 5) (.tmp 7) rfl w2.heap.size r.arr rfl rfl 88 Ru.zero.arr (alloc_block_new w2 (.cells Ru.zero.arr 88)) (by rw [Ru.arr_size hr]; kernel_rfl) (by rw [Ru.arr_size hr]; rfl) r.all ?_))
  intro w3 hS
  have hB3 : Below w2.heap.size w2 w3 := ((Below.refl _ _).alloc (Nat.le_refl _) (.cells Ru.zero.arr 88)).trans (hS.only.below (by simp) (fun k hk e => by omega))
  have g3 := hS.blk
  have hK : w2.heap.size < w3.heap.size := lt_of_obj g3
  have hx0 := range_block ((hB3.block _ (by omega)).trans H2.out.2.1)
  have hx1 := range_block ((hB3.block _ (by omega)).trans H2.out.2.2)
  have hx2 := range_block g3
  have H3 := Lib.hid (H2.out.1.trans (hB3.mono (by omega)))
  generalize w2.heap.size = c at *
  have k0 : ∀ z : Wld (fun x => Below w3.heap.size w3 x), (loadRow 43 (.pointer (some ⟨b, 0, none⟩))).run Try.prog z.w = .ok (.agg r.arr) z.w := fun z => row_ru hr (range_below hx0 (by omega) z.ok)
  have k1 : ∀ z : Wld (fun x => Below w3.heap.size w3 x), (loadRow 28 (.pointer (some ⟨b + 1, 0, none⟩))).run Try.prog z.w = .ok (.agg k.arr) z.w := fun z => row_ky hk (range_below hx1 (by omega) z.ok)
  have k2 : ∀ z : Wld (fun x => Below w3.heap.size w3 x), (loadRow 88 (.pointer (some ⟨c, 0, none⟩))).run Try.prog z.w = .ok (.agg r.arr) z.w := fun z => row_rr hr (range_below hx2 hK z.ok)
  haveI hne : Nonempty (Wld (fun x => Below w3.heap.size w3 x)) := ⟨⟨w3, Below.refl _ _⟩⟩
  clear hS hB3 g3 hx0 hx1 hx2 HB H2
  cases hR : r.right <;> cases hF : r.fits k
  all_goals
    go_upto_region 2 with (fail)
    refine region_class (fun x => Below w3.heap.size w3 x) (by kernel_rfl) (by kernel_rfl) (Below.refl _ _).drew ?_
    repeat (go_big_quiet_step ((rename_i z; first
      | (go_at_call 20; (first | with_reducible refine Calls.mono (rright_is hr _) ?_ | with_reducible refine Calls.mono (rright_is Ru.any_ok _) ?_); rintro e w' ⟨he, hb⟩; exact ⟨by first | rw [he, hR] | rw [he, any_right], ⟨w', z.ok.trans (hb.mono z.ok.size)⟩, rfl⟩)
      | (go_at_call 41; with_reducible refine Calls.mono (r9right_is hr _) ?_; rintro e w' ⟨he, hb⟩; exact ⟨by rw [he, hR], ⟨w', z.ok.trans (hb.mono z.ok.size)⟩, rfl⟩)
      | (go_at_call 12; (first | with_reducible refine Calls.mono (fits_is hr hk _) ?_ | with_reducible refine Calls.mono (fits_is Ru.any_ok hk _) ?_); rintro e w' ⟨he, hb⟩; exact ⟨by first | rw [he, hF] | rw [he, any_fits], ⟨w', z.ok.trans (hb.mono z.ok.size)⟩, rfl⟩)
      | (go_at_call 35; with_reducible refine Calls.mono (dkey_is hk _) ?_; rintro e w' ⟨he, hb⟩; exact ⟨he, ⟨w', z.ok.trans (hb.mono z.ok.size)⟩, rfl⟩)
      | (go_at_call 42; with_reducible refine Calls.mono (r9fits_is hr hk _) ?_; rintro e w' ⟨he, hb⟩; exact ⟨by rw [he, hF], ⟨w', z.ok.trans (hb.mono z.ok.size)⟩, rfl⟩)
      | (go_at_call 10; with_reducible refine Calls.mono (any_is _) ?_; rintro e w' ⟨he, hb⟩; exact ⟨he, ⟨w', z.ok.trans (hb.mono z.ok.size)⟩, rfl⟩)
      | (go_at_call 6; with_reducible refine Calls.mono (works_any _) ?_; rintro e w' ⟨he, hb⟩; exact ⟨he, ⟨w', z.ok.trans (hb.mono z.ok.size)⟩, rfl⟩))))
    refine wpQuiet_nil ?_
    intro w4 hB4
    have hBf := H3.out.trans (hB4.mono (by omega))
    clear k0 k1 k2 hne hR hF hB4
    go_wp2_with fail
    go_ret
    exact ⟨rfl, by rw [HBb.out]; exact hBf⟩
end Go.Proofs.Ytcbkcalemfminaa

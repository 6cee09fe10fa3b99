/- SameDisk, walked. -/
import Derived.Test.YtbgjahgmkbbgjaaDr6
namespace Go.Proofs.Ytbgjahgmkbbgjaa
open Go.RowKit

theorem NewW.wr {base : Nat} {w : World} {F : Nat → Prop} {v : Value} {xs : List Value} {l : List (Nat × List Nat)} (h : NewW base w F v xs l) : WR w v l := by
  obtain ⟨ao, cap, e⟩ := own_shape h.row
  refine ⟨ao, cap, e, fun i a d hi => ?_⟩
  have hil := (List.getElem?_eq_some_iff.1 hi).1
  obtain ⟨g, cp, hv, hg, hc⟩ := row_at h.row i hil
  obtain ⟨a', d', y, e1, e2, e3, hy, _⟩ := h.wcs.get i hil
  have hxl := h.wcs.len
  rw [hi] at e1
  injection e1 with e1
  injection e1 with h1 h2
  subst h1 h2
  rw [e] at hv
  injection hv with hv _ _
  obtain ⟨ya, yc, ey⟩ := own_shape hy
  subst ey
  exact ⟨g, ya, yc, hv, hg, (hc _ (by omega)).trans e2, (hc _ (by omega)).trans e3, hy.holds⟩

/-- Ahead of each round. -/
def LRel (w3 : World) (n : Nat) (i : Value) (wr : World) : Prop := ∃ k : Nat, i = .int .i64 k ∧ k ≤ n ∧ Below w3.heap.size w3 wr

theorem size_d {w : World} {p : Nat} {r : Nat → Nat} {N : Nat} {D : DS} (h : Dsk w p r N D) : Calls Try.prog 18 #[.pointer (some ⟨p, 0, none⟩)] w fun e w' => e = .returned (.int .i64 N) ∧ w' = w := by
  obtain ⟨dv, nv, uv, xs, hD, hw⟩ := h
  have := size_is hD
  rw [hw.nowlen] at this
  exact this

set_option maxRecDepth 100000 in
set_option maxHeartbeats 2000000 in
theorem samedisk_is {w : World} {p : Nat} {r : Nat → Nat} {N B : Nat} {D : DS} {v : Value} (h : Dsk w p r N D) (hv : RW w B v D.uns) :
    Calls Try.prog 41 #[.pointer (some ⟨p, 0, none⟩), rd D.dur v] w fun x w' => x = .returned (.bool true) ∧ Below w.heap.size w w' := by
  have hwf := h.wf
  obtain ⟨va, vc, rfl⟩ := hv.shape
  have hB : Below w.heap.size w (w.alloc (.cells #[.string (str8 D.dur), .slice va D.uns.length vc] 66)) := (Below.refl _ _).alloc (Nat.le_refl _) _
  have hg := alloc_block_new w (.cells #[.string (str8 D.dur), .slice va D.uns.length vc] 66)
  have hsz : (str8 D.dur).size = N := by rw [str8_size, hwf.dur]
  unfold rd
  have HD := Lib.hid (h.below hB)
  have HV := Lib.hid (hv.below hB)
  have HB := Lib.hid hB
  have HG := Lib.hid hg
  have HW := Lib.hid hwf
  have hN : N ≤ 65536 := hwf.le
  clear h hv hB hg hwf
  go_enter Try.func41, Try.ntmps41
  go_wp2_with fail
  generalize (w.alloc (.cells #[.string (str8 D.dur), .slice va D.uns.length vc] 66)) = w1 at *
  obtain ⟨g, eg⟩ : ∃ t, w.heap.size = t := ⟨_, rfl⟩
  rw [show (some (⟨w.heap.size, 0, none⟩ : Addr)) = some ⟨g, 0, none⟩ by rw [eg]]
  rw [eg] at HG
  clear eg
  refine (read_d 0 N HD.out (by omega)).mono ?_
  rintro e w2 ⟨y, rfl, hy, hB2⟩
  rw [List.drop_zero, List.take_of_length_le (by rw [HW.out.nowlen]; exact Nat.le_refl _)] at hy
  have hD2 := HD.out.below hB2
  obtain ⟨ya, yc, ey⟩ := own_shape hy
  subst ey
  have HY := Lib.hid hy
  have HD2 := Lib.hid hD2
  have HB2 := Lib.hid hB2
  clear hy hD2 hB2
  go_wp2_with fail
  refine (durable_d 0 N HD2.out (by omega)).mono ?_
  rintro e w3 ⟨z, rfl, hz, hB3⟩
  rw [List.drop_zero, List.take_of_length_le (by rw [HW.out.dur]; exact Nat.le_refl _)] at hz
  have hD3 := HD2.out.below hB3
  obtain ⟨za, zc, ez⟩ := own_shape hz
  subst ez
  have HZ := Lib.hid hz
  have HD3 := Lib.hid hD3
  have HB3 := Lib.hid hB3
  clear hz hD3 hB3 HD2
  go_wp2_with fail
  refine (unsynced_d HD3.out).mono ?_
  rintro e w4 ⟨l, F, ys, rfl, hl, hB4⟩
  obtain ⟨la, lc, el⟩ := own_shape hl.row
  subst el
  have hB14 := (HB2.out.trans (HB3.out.mono HB2.out.size)).trans (hB4.mono (Nat.le_trans HB2.out.size HB3.out.size))
  have hy4 := (HY.out.holds.below HB3.out).below hB4
  have hz4 := HZ.out.holds.below hB4
  have hD4 := HD3.out.below hB4
  have hv4 := HV.out.below hB14
  have hg4 := (hB14.block g (lt_of_obj HG.out)).trans HG.out
  have hgl := lt_of_obj hg4
  have hcy : ∀ x : Wld (fun x => Below w4.heap.size w4 x), (convert 31 9 (.slice ya D.now.length yc)).run Try.prog x.w = .ok (.string (str8 D.now)) x.w := fun x => conv8 (hy4.below x.ok)
  have hcz : ∀ x : Wld (fun x => Below w4.heap.size w4 x), (convert 31 9 (.slice za D.dur.length zc)).run Try.prog x.w = .ok (.string (str8 D.dur)) x.w := fun x => conv8 (hz4.below x.ok)
  have HSZ : Hid (∀ x : Wld (fun x => Below w4.heap.size w4 x), Calls Try.prog 18 #[.pointer (some ⟨p, 0, none⟩)] x.w fun e w' => e = .returned (.int .i64 N) ∧ w' = x.w) := fun x => size_d (hD4.below x.ok)
  have HNW : Hid (∀ x : Wld (fun x => Below w4.heap.size w4 x), Calls Try.prog 40 #[.agg #[.string (str8 D.dur), .slice va D.uns.length vc]] x.w fun e w' => e = .returned (.string (str8 D.now)) ∧ Below x.w.heap.size x.w w') := fun x => by
    rw [HW.out.now]
    exact rnow_is D.dur (hv4.below x.ok) (by rw [HW.out.dur]; exact hN) (by rw [HW.out.dur]; exact HW.out.lie) HW.out.few
  have k0 : ∀ x : Wld (fun x => Below w4.heap.size w4 x), x.w.cell? ⟨g, 0, none⟩ = some (.string (str8 D.dur)) := fun x => (x.ok.cell (p := ⟨g, 0, none⟩) hgl).trans (cell_of_block hg4 0)
  have k1 : ∀ x : Wld (fun x => Below w4.heap.size w4 x), x.w.cell? ⟨g, 1, none⟩ = some (.slice va D.uns.length vc) := fun x => (x.ok.cell (p := ⟨g, 1, none⟩) hgl).trans (cell_of_block hg4 1)
  haveI hne : Nonempty (Wld (fun x => Below w4.heap.size w4 x)) := ⟨⟨w4, Below.refl _ _⟩⟩
  have HL4 := Lib.hid hl.wr
  have HB4 := Lib.hid (HB.out.trans (hB14.mono HB.out.size))
  have H4 := Lib.hid (And.intro hv4 hg4)
  have hlenN : D.uns.length ≤ 1000000 := HW.out.few
  clear hB14 hy4 hz4 hD4 hv4 hg4 hl hB4 HB2 HB3 HD HD3 HV HB HG HY HZ
  go_wp2_with fail
  refine region_class (fun x => Below w4.heap.size w4 x) (by kernel_rfl) (by kernel_rfl) (Below.refl _ _).drew ?_
  repeat (go_big_quiet_step ((rename_i z; first
    | (go_at_call 18; exact (HSZ.out z).mono fun e w' ⟨he, hw⟩ => ⟨he, z, hw⟩)
    | (go_at_call 40; exact (HNW.out z).mono fun e w' ⟨he, hb⟩ => ⟨he, ⟨w', z.ok.trans (hb.mono z.ok.size)⟩, rfl⟩))))
  refine wpQuiet_nil ?_
  intro w5 hB5
  have HL5 := Lib.hid (HL4.out.below hB5)
  have H5 := Lib.hid (And.intro (H4.out.1.below hB5) ((hB5.block g hgl).trans H4.out.2))
  have HB5 := Lib.hid (HB4.out.trans (hB5.mono HB4.out.size))
  clear hcy hcz k0 k1 hne HSZ HNW hB5 HL4 H4 HB4 hgl
  go_wp2_with fail
  go_loopw [11] (LRel w5 D.uns.length) (fun i _ => D.uns.length - (intOf i).toNat)
  case atStart => exact ⟨0, rfl, Nat.zero_le _, Below.refl _ _⟩
  case round =>
    obtain ⟨k, rfl, hk, hB⟩ := hrel
    by_cases hlt : k < D.uns.length
    · obtain ⟨⟨a, d⟩, hx⟩ : ∃ x, D.uns[k]? = some x := ⟨_, List.getElem?_eq_getElem hlt⟩
      obtain ⟨lo, lc', el, hlx⟩ := HL5.out.below hB
      injection el with e1 e2 e3
      subst e1 e3
      clear e2
      obtain ⟨lg, xa, xc, rfl, hlg, c0, c1, hxd⟩ := hlx k a d hx
      obtain ⟨rg, rfl, d0, d1⟩ := (H5.out.1.below hB).at hx
      have hgr := (hB.block g (lt_of_obj H5.out.2)).trans H5.out.2
      have hgl := lt_of_obj hgr
      have hrg := World.block_lt_of_cell? wr _ d0
      have cl : ∀ (x : Wld (fun x => Below wr.heap.size wr x)) (b i : Nat), b < wr.heap.size → x.w.cell? ⟨b, i, none⟩ = wr.cell? ⟨b, i, none⟩ := fun x b i hb => x.ok.cell (p := ⟨b, i, none⟩) hb
      have k0 : ∀ x : Wld (fun x => Below wr.heap.size wr x), x.w.cell? ⟨lg, k * 2, none⟩ = some (.int .i64 a) := fun x => (cl x _ _ hlg).trans c0
      have k1 : ∀ x : Wld (fun x => Below wr.heap.size wr x), x.w.cell? ⟨lg, k * 2 + 1, none⟩ = some (.slice xa d.length xc) := fun x => (cl x _ _ hlg).trans c1
      have k2 : ∀ x : Wld (fun x => Below wr.heap.size wr x), x.w.cell? ⟨rg, k * 2, none⟩ = some (.int .i64 a) := fun x => (cl x _ _ hrg).trans d0
      have k3 : ∀ x : Wld (fun x => Below wr.heap.size wr x), x.w.cell? ⟨rg, k * 2 + 1, none⟩ = some (.string (str8 d)) := fun x => (cl x _ _ hrg).trans d1
      have k4 : ∀ x : Wld (fun x => Below wr.heap.size wr x), x.w.cell? ⟨g, 1, none⟩ = some (.slice (some ⟨rg, 0, none⟩) D.uns.length vc) := fun x => (cl x _ _ hgl).trans (cell_of_block hgr 1)
      have hc : ∀ x : Wld (fun x => Below wr.heap.size wr x), (convert 31 9 (.slice xa d.length xc)).run Try.prog x.w = .ok (.string (str8 d)) x.w := fun x => conv8 (hxd.below x.ok)
      haveI hne : Nonempty (Wld (fun x => Below wr.heap.size wr x)) := ⟨⟨wr, Below.refl _ _⟩⟩
      have j0 : (0 : Int) ≤ (k : Int) := by omega
      have j1 : (k : Int) < (D.uns.length : Int) := by omega
      have HBr := Lib.hid hB
      clear cl hgr hlx hxd c0 c1 d0 d1 hx hB
      go_wp2_with fail
      refine region_class (fun x => Below wr.heap.size wr x) (by kernel_rfl) (by kernel_rfl) (Below.refl _ _).drew ?_
      repeat (go_big_quiet_step (fail))
      refine wpQuiet_nil ?_
      intro w6 hB6
      have HB6 := Lib.hid (HBr.out.trans (hB6.mono HBr.out.size))
      clear k0 k1 k2 k3 k4 hc hne hB6 HBr
      go_wp2_with fail
      go_roundw
      case rel => first | exact ⟨k + 1, by go_num, by omega, HB6.out⟩ | ((repeat apply Exists.intro); exact ⟨⟨k + 1, by go_num, by omega, HB6.out⟩, rfl⟩)
      case measure => simp [intOf]; omega
    · have HBr := Lib.hid hB
      clear hB
      go_wp2_with fail
      go_ret
      exact ⟨rfl, HB5.out.trans (HBr.out.mono HB5.out.size)⟩
end Go.Proofs.Ytbgjahgmkbbgjaa

/- FifoNone, walked. -/
import Derived.Test.YtpnhdfingcfbnaaFw
import Derived.Test.YtpnhdfingcfbnaaOpenF
import Derived.Lib.SmallJoins
namespace Go.Proofs.Ytpnhdfingcfbnaa
open Go.RowKit Go.Joins

theorem clear_nil (w : World) : Calls Try.prog 17 #[.pointer none] w fun e w' => e = .returned (.int .i64 0) ∧ w' = w := by
  go_enter Try.func17, Try.ntmps17
  go_wp2_with fail
  refine (len_nil _).mono ?_
  rintro e w' ⟨rfl, rfl⟩
  go_wp2_with fail
  go_ret
  exact ⟨rfl, rfl⟩

/-- An item that came in. -/
theorem open_item {H : Type} {enc : TypeId × Value → H} {w : World} {base : Nat} {spare : Nat → Bool} {held : Bool} {r : Reach} {b0 : Nat} {v : Value} {d : DataW H} {p : List MemPlace} (hv : Value.okWide Try.prog w r b0 37 v) (h : DataW.Trod enc Try.prog w base spare held 37 v d p) :
    ∃ (no sz : Int) (y : Value) (ds : List Nat), v = .agg #[.int .u64 no, .int .i64 sz, y] ∧ Holds8 w y ds := by
  obtain ⟨v0, v1, v2, y0, y1, y2, n, rfl, _, _, t0, t1, t2⟩ := open_agg3 Try.underlying37 (by kernel_rfl) (by kernel_rfl) hv h
  obtain ⟨k, e0, _, w0⟩ := DataW.trod_int Try.underlying30 t0
  obtain ⟨a, e1, _, w1⟩ := DataW.trod_int Try.underlying3 t1
  obtain ⟨ds, hd⟩ := open8 t2
  simp only [List.cons.injEq, and_true] at e0 e1
  exact ⟨k, a, v2, ds, by rw [e0, e1], hd⟩

set_option maxRecDepth 100000 in
set_option maxHeartbeats 1000000 in
theorem none_any (no sz : Int) (y : Value) (ds : List Nat) (w : World) (hy : Holds8 w y ds) :
    Calls Try.prog 5 #[.agg #[.int .u64 no, .int .i64 sz, y]] w fun e w' => e = .returned (.bool true) ∧ Below w.heap.size w w' := by
  obtain ⟨ya, yc, ey, _⟩ := hy
  subst ey
  generalize ds.length = yl
  go_enter Try.func5, Try.ntmps5
  go_wp2_with fail
  have hA : Below w.heap.size w (w.alloc (.cells #[.int .u64 no, .int .i64 sz, .slice ya yl yc] 37)) := (Below.refl _ _).alloc (Nat.le_refl _) _
  have h0 := alloc_block_new w (.cells #[.int .u64 no, .int .i64 sz, .slice ya yl yc] 37)
  obtain ⟨g, eg⟩ : ∃ t, w.heap.size = t := ⟨_, rfl⟩
  rw [show (some (⟨w.heap.size, 0, none⟩ : Addr)) = some ⟨g, 0, none⟩ by rw [eg]]
  rw [eg] at h0
  have HE := Lib.hid eg
  clear eg
  generalize w.alloc (.cells #[.int .u64 no, .int .i64 sz, .slice ya yl yc] 37) = w1 at *
  refine (head_nil _).mono ?_
  rintro e w2 ⟨rfl, hB2⟩
  have h2 := (hB2.block g (lt_of_obj h0)).trans h0
  have hBa := hA.trans (hB2.mono hA.size)
  have H2 := Lib.hid h2
  have HB := Lib.hid hBa
  clear hA h0 hB2 h2 hBa
  go_wp2_with fail
  have hC : Below w2.heap.size w2 (w2.alloc (.cells #[.int .u64 0, .int .i64 0, .slice none 0 0] 37)) := (Below.refl _ _).alloc (Nat.le_refl _) _
  have h3 := (hC.block g (lt_of_obj H2.out)).trans H2.out
  have hBb := HB.out.trans (hC.mono HB.out.size)
  generalize w2.alloc (.cells #[.int .u64 0, .int .i64 0, .slice none 0 0] 37) = w3 at *
  refine (pop_nil _).mono ?_
  rintro e w4 ⟨rfl, hB4⟩
  have h4 := (hB4.block g (lt_of_obj h3)).trans h3
  have hBc := hBb.trans (hB4.mono hBb.size)
  have hD : Below w4.heap.size w4 (w4.alloc (.cells #[.int .u64 0, .int .i64 0, .slice none 0 0] 37)) := (Below.refl _ _).alloc (Nat.le_refl _) _
  have h5 := (hD.block g (lt_of_obj h4)).trans h4
  have hBd := hBc.trans (hD.mono hBc.size)
  have hne : ¬ g = w4.heap.size := by have := lt_of_obj h4; omega
  have hne' : ¬ w4.heap.size = g := fun e => hne e.symm
  have hglt : g < w4.heap.size := lt_of_obj h4
  have k0 : w4.cell? ⟨g, 0, none⟩ = _ := cell_of_block h4 0
  have k1 : w4.cell? ⟨g, 1, none⟩ = _ := cell_of_block h4 1
  have k2 : w4.cell? ⟨g, 2, none⟩ = _ := cell_of_block h4 2
  dsimp at k0 k1 k2
  have H5 := Lib.hid h5
  have HBD := Lib.hid hBd
  clear hC h3 hBb hB4 h4 hBc hD h5 hBd HB H2
  go_wp2_with fail
  refine (push_nil _ _ _ _).mono ?_
  rintro e w5 ⟨rfl, hB5⟩
  have h6 := (hB5.block g (lt_of_obj H5.out)).trans H5.out
  have hBe := HBD.out.trans (hB5.mono HBD.out.size)
  have j1 : w5.cell? ⟨g, 1, none⟩ = _ := cell_of_block h6 1
  dsimp at j1
  have H6 := Lib.hid h6
  have HBE := Lib.hid hBe
  clear h6 hBe hB5 k0 k1 k2 H5 HBD hne
  go_wp2_with fail
  refine (room_nil _ _).mono ?_
  rintro e w6 ⟨rfl, nd, rfl⟩
  have hBf := HBE.out.trans ((below_drewN (Below.refl _ _) nd).mono HBE.out.size)
  generalize w5.drewN nd = w6 at *
  have HBF := Lib.hid hBf
  clear hBf HBE H6 j1
  go_wp2_with (first
    | (go_at_call 21; refine (len_nil _).mono ?_; rintro e w' ⟨rfl, rfl⟩)
    | (go_at_call 22; refine (size_nil _).mono ?_; rintro e w' ⟨rfl, rfl⟩)
    | (go_at_call 23; refine (drops_nil _).mono ?_; rintro e w' ⟨rfl, rfl⟩)
    | (go_at_call 25; refine (all_nil _).mono ?_; rintro e w' ⟨rfl, rfl⟩)
    | (go_at_call 17; refine (clear_nil _).mono ?_; rintro e w' ⟨rfl, rfl⟩))
  refine (works_any _).mono ?_
  rintro e w' ⟨rfl, hB⟩
  go_wp2_with fail
  go_ret
  exact ⟨rfl, HBF.out.trans (hB.mono HBF.out.size)⟩
end Go.Proofs.Ytpnhdfingcfbnaa

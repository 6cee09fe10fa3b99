/- Pop where there is one, walked. -/
import Derived.Test.YthipfcmjpgbemaaFqa
namespace Go.Proofs.Ythipfcmjpgbemaa
open Go.RowKit

/-- Behind Pop, where there is one. -/
def PopOk (w : World) (p : Nat) (r : Nat → Nat) (Q : QS) (x : It) (L : List It) (e : Ending) (w' : World) : Prop :=
  ∃ v, e = .returned (.tuple #[.agg #[.int .u64 x.no, .int .i64 x.size, v], .bool true]) ∧ (∃ rv f n xs, IsQ w' p r (popped Q L) rv f n xs) ∧ Only (fun k => r k ≠ 0) w w' ∧ Own8 w' w.heap.size v x.data

set_option maxRecDepth 100000 in
set_option maxHeartbeats 1000000 in
theorem pop_is {w : World} {p : Nat} {r : Nat → Nat} {Q : QS} {rv : Value} {f n : Nat} {xs : List Value} (hQ : IsQ w p r Q rv f n xs) (x : It) (L : List It) (hL : Q.L = x :: L) :
    Calls Try.prog 54 #[.pointer (some ⟨p, 0, none⟩)] w (PopOk w p r Q x L) := by
  have hlen : Q.L.length = L.length + 1 := by rw [hL]; rfl
  have hsum : sumQ Q.L = x.size + sumQ L := by rw [hL]; simp [sumQ]
  have hroom := hQ.room
  have hcap := hQ.cap
  have hff : f < n := by have := hQ.from_; omega
  have hsb := hQ.sum
  have hbd := hQ.bound
  obtain ⟨g, cap, erv, hg, hnc, hcell⟩ := row_cell hQ.ring (by omega)
  subst erv
  have hxl : xs.length = n * 3 := hQ.ring.1
  have hA : Below w.heap.size w (w.alloc (.cells #[.int .u64 0, .int .i64 0, .slice none 0 0] 34)) := (Below.refl _ _).alloc (Nat.le_refl _) _
  have h2 := alloc_block_new w (.cells #[.int .u64 0, .int .i64 0, .slice none 0 0] 34)
  have HH := Lib.hid (head_is (hQ.below hA) x L hL)
  have HQ := Lib.hid hQ
  have HL := Lib.hid hL
  have HA := Lib.hid hA
  have H2 := Lib.hid h2
  have HLEN := Lib.hid hlen
  have HSUM := Lib.hid hsum
  have HXL := Lib.hid hxl
  have HCE := Lib.hid hcell
  clear hQ hL hA h2 hlen hsum hxl hcell hroom
  go_enter Try.func54, Try.ntmps54
  go_wp2_with fail
  refine HH.out.mono ?_
  rintro e w1 ⟨v, rfl, ho, hB1⟩
  obtain ⟨av, cv, ev⟩ := own_shape ho
  subst ev
  have HO := Lib.hid ho
  have HB1 := Lib.hid hB1
  clear ho hB1 HH
  go_wp2_with fail
  have hB2 : Below w1.heap.size w1 (w1.alloc (.cells #[.int .u64 x.no, .int .i64 x.size, .slice av x.data.length cv] 34)) := (Below.refl _ _).alloc (Nat.le_refl _) _
  have h4 := alloc_block_new w1 (.cells #[.int .u64 x.no, .int .i64 x.size, .slice av x.data.length cv] 34)
  have hBw : Below w.heap.size w (w1.alloc (.cells #[.int .u64 x.no, .int .i64 x.size, .slice av x.data.length cv] 34)) := (HA.out.trans (HB1.out.mono HA.out.size)).trans (hB2.mono (Nat.le_trans HA.out.size HB1.out.size))
  have hQ2 := HQ.out.below hBw
  have h22 := (hB2.block w.heap.size (lt_of_obj ((HB1.out.block w.heap.size (by simp)).trans H2.out))).trans ((HB1.out.block w.heap.size (by simp)).trans H2.out)
  have hO2 := own_below HO.out hB2
  have hgg : w.heap.size < w1.heap.size := lt_of_obj ((HB1.out.block w.heap.size (by simp)).trans H2.out)
  generalize w1.alloc (.cells #[.int .u64 x.no, .int .i64 x.size, .slice av x.data.length cv] 34) = w2 at *
  obtain ⟨g2, eg2⟩ : ∃ t, w.heap.size = t := ⟨_, rfl⟩
  obtain ⟨g4, eg4⟩ : ∃ t, w1.heap.size = t := ⟨_, rfl⟩
  rw [eg2, eg4] at hgg
  rw [eg4] at h4
  rw [eg2] at h22
  rw [show (some (⟨w1.heap.size, 0, none⟩ : Addr)) = some ⟨g4, 0, none⟩ by rw [eg4]]
  rw [show (some (⟨w.heap.size, 0, none⟩ : Addr)) = some ⟨g2, 0, none⟩ by rw [eg2]]
  have hpl := HQ.out.lt p (by rw [HQ.out.rp]; decide)
  have hgl := HQ.out.lt g (by rw [HQ.out.rr g rfl]; decide)
  have hgp : ¬ g = p := fun e => by have h1 := HQ.out.rp; rw [← e, HQ.out.rr g rfl] at h1; exact absurd h1 (by decide)
  have hgp' : ¬ p = g := fun e => hgp e.symm
  have n1 : ¬ p = g2 := by omega
  have n2 : ¬ p = g4 := by omega
  have n3 : ¬ g = g2 := by omega
  have n4 : ¬ g = g4 := by omega
  have n5 : ¬ g2 = g4 := by omega
  have n1' : ¬ g2 = p := by omega
  have n2' : ¬ g4 = p := by omega
  have n3' : ¬ g2 = g := by omega
  have n4' : ¬ g4 = g := by omega
  have n5' : ¬ g4 = g2 := by omega
  have k0 := hQ2.c0
  have k1 := hQ2.c1
  have k2 := hQ2.c2
  have k3 := hQ2.c3
  have e1 := hQ2.fr 1
  have e2 := hQ2.fr 2
  have e3 := hQ2.fr 3
  have b1 : w2.cell? ⟨g4, 1, none⟩ = _ := cell_of_block h4 1
  have b0 : w2.cell? ⟨g4, 0, none⟩ = _ := cell_of_block h4 0
  have b2 : w2.cell? ⟨g4, 2, none⟩ = _ := cell_of_block h4 2
  have d0 : w2.cell? ⟨g2, 0, none⟩ = _ := cell_of_block h22 0
  have d1 : w2.cell? ⟨g2, 1, none⟩ = _ := cell_of_block h22 1
  have d2 : w2.cell? ⟨g2, 2, none⟩ = _ := cell_of_block h22 2
  have y0 := free_of_block h22 0
  have y1 := free_of_block h22 1
  have y2 := free_of_block h22 2
  dsimp at b0 b1 b2 d0 d1 d2
  obtain ⟨g', cap', ev', _, _, hcell2⟩ := row_cell hQ2.ring (by omega)
  injection ev' with ev1 ev2 ev3
  injection ev1 with ev1
  injection ev1 with ev1
  subst ev1
  clear ev2 ev3
  obtain ⟨u0, hu0⟩ : ∃ u, xs[f * 3]? = some u := ⟨_, List.getElem?_eq_getElem (by rw [HXL.out]; omega)⟩
  obtain ⟨u1, hu1⟩ : ∃ u, xs[f * 3 + 1]? = some u := ⟨_, List.getElem?_eq_getElem (by rw [HXL.out]; omega)⟩
  obtain ⟨u2, hu2⟩ : ∃ u, xs[f * 3 + 2]? = some u := ⟨_, List.getElem?_eq_getElem (by rw [HXL.out]; omega)⟩
  have q0 := (hcell2 (f * 3) (by omega)).trans hu0
  have q1 := (hcell2 (f * 3 + 1) (by omega)).trans hu1
  have q2 := (hcell2 (f * 3 + 2) (by omega)).trans hu2
  obtain ⟨cc, hcc⟩ := row_type hQ2.ring g rfl
  have z0 : w2.frozen? ⟨g, f * 3, none⟩ = false := free_of_block hcc _
  have z1 : w2.frozen? ⟨g, f * 3 + 1, none⟩ = false := free_of_block hcc _
  have z2 : w2.frozen? ⟨g, f * 3 + 2, none⟩ = false := free_of_block hcc _
  have HQ2 := Lib.hid hQ2
  have H4 := Lib.hid h4
  have H22 := Lib.hid h22
  have HO2 := Lib.hid hO2
  have HBW := Lib.hid hBw
  have HE2 := Lib.hid eg2
  have HE4 := Lib.hid eg4
  clear hQ2 h4 h22 hO2 hBw hB2 hcc hcell2 hu0 hu1 hu2 eg2 eg4 hg hnc HO HCE
  refine (place0 k0 k1 hff hcap).mono ?_
  rintro e w3 ⟨rfl, nd, rfl⟩
  have m1 : (0 : Int) ≤ ((f : Int) + 1) % (n : Int) := Int.emod_nonneg _ (by omega)
  have m2 : ((f : Int) + 1) % (n : Int) < (n : Int) := Int.emod_lt_of_pos _ (by omega)
  have m3 : (0 : Int) < (n : Int) := by omega
  have l1 : (1 : Int) ≤ (Q.L.length : Int) := by have := HLEN.out; omega
  have l2 : (Q.L.length : Int) ≤ 200000 := by have := HQ.out.room; omega
  have s1 : (x.size : Int) ≤ (sumQ Q.L : Int) := by have := HSUM.out; omega
  have s2 : (sumQ Q.L : Int) ≤ 9223372036854775807 := by omega
  go_wp2_with fail
  go_region
  go_wp2_with fail
  go_region
  go_wp2_with fail
  have hD : Below w2.heap.size w2 (w2.drewN nd) := below_drewN (Below.refl _ _) nd
  have hQ3 := HQ2.out.below hD
  have hBw3 := HBW.out.trans (hD.mono HBW.out.size)
  have h22 := (hD.block g2 (lt_of_obj H22.out)).trans H22.out
  have hv3 := own_below HO2.out hD
  clear k0 k1 k2 k3 e1 e2 e3 b0 b1 b2 d0 d1 d2 y0 y1 y2 q0 q1 q2 z0 z1 z2 m1 m2 m3 l1 l2 s1 s2
  generalize w2.drewN nd = w3 at *
  obtain ⟨hrow, hO4⟩ := set3_row hQ3.ring (o := f * 3) (by omega) (.int .u64 0) (.int .i64 0) (.slice none 0 0)
  have hb4 := hO4.keep hQ3.blk hgp'
  have h224 := hO4.keep h22 n3'
  have hv4 := own8_other hv3 (row_type hQ3.ring g rfl).choose_spec (fun c e => by injection e with _ e _; exact absurd e (by decide)) hO4
  generalize ((w3.setCell ⟨g, f * 3, none⟩ (.int .u64 0)).setCell ⟨g, f * 3 + 1, none⟩ (.int .i64 0)).setCell ⟨g, f * 3 + 2, none⟩ (.slice none 0 0) = w4 at *
  have hb5 := setCell_block (setCell_block (setCell_block hb4 1 (.int .i64 (((f : Int) + 1) % (n : Int)))) 2 (.int .i64 ((Q.L.length : Int) - 1))) 3 (.int .i64 ((sumQ Q.L : Int) - (x.size : Int)))
  have hO5 : Only (· = p) w4 (((w4.setCell ⟨p, 1, none⟩ (.int .i64 (((f : Int) + 1) % (n : Int)))).setCell ⟨p, 2, none⟩ (.int .i64 ((Q.L.length : Int) - 1))).setCell ⟨p, 3, none⟩ (.int .i64 ((sumQ Q.L : Int) - (x.size : Int)))) :=
    Only.setCell (p := ⟨p, 3, none⟩) (Only.setCell (p := ⟨p, 2, none⟩) (Only.setCell (p := ⟨p, 1, none⟩) (Only.refl (· = p) w4) (fun _ => rfl) _) (fun _ => rfl) _) (fun _ => rfl) _
  have h225 := hO5.keep h224 n1'
  have hv5 := own8_other hv4 hb4 (fun c e => by injection e with _ e _; exact absurd e (by decide)) hO5
  generalize ((w4.setCell ⟨p, 1, none⟩ (.int .i64 (((f : Int) + 1) % (n : Int)))).setCell ⟨p, 2, none⟩ (.int .i64 ((Q.L.length : Int) - 1))).setCell ⟨p, 3, none⟩ (.int .i64 ((sumQ Q.L : Int) - (x.size : Int))) = w5 at *
  have hle := HLEN.out
  have hsu := HSUM.out
  rw [show ((f : Int) + 1) % (n : Int) = (((f + 1) % n : Nat) : Int) from (Int.natCast_emod (f + 1) n).symm, show (Q.L.length : Int) - 1 = (L.length : Int) by omega, show (sumQ Q.L : Int) - (x.size : Int) = (sumQ L : Int) by omega] at hb5
  obtain ⟨hF, hOF⟩ := pop_end (w0 := w) hQ3 HL.out hBw3 HQ.out.lt hrow (fun j hj => set3_other hj) hO4 hO5 hb5
  obtain ⟨hb6, hO6⟩ := set3_blk h225 (.int .u64 x.no) (.int .i64 x.size) (.slice av x.data.length cv)
  have hE2 := HE2.out
  have hE4 := HE4.out
  have hrz : r g2 = 0 := by
    rcases Nat.eq_zero_or_pos (r g2) with e | e
    · exact e
    · have := HQ.out.lt g2 (by omega); omega
  have hF6 := hF.keep hO6 (fun k hk e => hk (by rw [e]; exact hrz))
  have hOF6 : Only (fun k => r k ≠ 0) w _ := ⟨hO6.os.trans hOF.os, hO6.tape.trans hOF.tape, hO6.output.trans hOF.output, Nat.le_trans hOF.size hO6.size, fun k hk hrk => (hO6.block k (Nat.lt_of_lt_of_le hk hOF.size) (by omega)).trans (hOF.block k hk hrk)⟩
  have hv6 := own8_other hv5 h225 (fun c e => by injection e with _ e _; exact absurd e (by decide)) hO6
  generalize ((w5.setCell ⟨g2, 0, none⟩ (.int .u64 x.no)).setCell ⟨g2, 1, none⟩ (.int .i64 x.size)).setCell ⟨g2, 2, none⟩ (.slice av x.data.length cv) = w6 at *
  have r0 : w6.drew.drew.cell? ⟨g2, 0, none⟩ = _ := cell_of_block (w := w6.drew.drew) hb6 0
  have r1 : w6.drew.drew.cell? ⟨g2, 1, none⟩ = _ := cell_of_block (w := w6.drew.drew) hb6 1
  have r2 : w6.drew.drew.cell? ⟨g2, 2, none⟩ = _ := cell_of_block (w := w6.drew.drew) hb6 2
  dsimp at r0 r1 r2
  have hfd := hF6.keep (Only.refl (fun _ => False) w6).drew.drew (fun _ _ h => h)
  have hvd := own_only hv6 (Only.refl (fun _ => False) w6).drew.drew (fun _ _ h => h)
  refine bodyPost_ret (v := .tuple #[.agg #[.int .u64 x.no, .int .i64 x.size, .slice av x.data.length cv], .bool true]) (by simp [results, Try.results54, go_sem, r0, r1, r2]) rfl ⟨_, rfl, ⟨_, _, _, _, hfd⟩, hOF6.drew.drew, own_lower hvd ?_⟩
  simp
end Go.Proofs.Ythipfcmjpgbemaa

/- Push where there is room, walked: the walk. -/
import Derived.Test.YthipfcmjpgbemaaFq7
namespace Go.Proofs.Ythipfcmjpgbemaa
open Go.RowKit

/-- Behind a push that went well. -/
def PushOk (w : World) (p : Nat) (r : Nat → Nat) (Q : QS) (x : It) (e : Ending) (w' : World) : Prop :=
  e = .returned (.int .i64 0) ∧ ∃ r' rv' f' n' xs', IsQ w' p r' (pushed Q x) rv' f' n' xs' ∧ Only (fun k => r k ≠ 0) w w' ∧ ∀ k, r' k ≠ 0 → r k ≠ 0 ∨ w.heap.size ≤ k

set_option maxRecDepth 100000 in
set_option maxHeartbeats 600000 in
theorem push_ok (x : It) (y : Value) {w : World} {p : Nat} {r : Nat → Nat} {Q : QS} {rv : Value} {f n : Nat} {xs : List Value} (hQ : IsQ w p r Q rv f n xs) (hy : Holds8 w y x.data) (hyr : 0 < x.data.length → ∀ k, y.ownBlock = some k → r k = 0) (hroom : roomB Q x.size = true) (hd : x.data.length ≤ 1000000) :
    Calls Try.prog 29 #[.pointer (some ⟨p, 0, none⟩), .agg #[.int .u64 x.no, .int .i64 x.size, y]] w (PushOk w p r Q x) := by
  obtain ⟨ya, yc, hyv, _⟩ := id hy
  have hp := lt_of_obj hQ.blk
  have hrm : roomB Q x.size = true := hroom
  simp only [roomB, decide_eq_true_eq] at hrm
  have hrw : r w.heap.size = 0 := by
    rcases Nat.eq_zero_or_pos (r w.heap.size) with e | e
    · exact e
    · exact absurd (hQ.lt _ (by omega)) (Nat.lt_irrefl _)
  have hsz : x.size ≤ 9223372036854775807 := by have := hQ.bound; omega
  rw [hyv] at hy hyr ⊢
  have HQ := Lib.hid hQ
  have HR := Lib.hid hroom
  have HY := Lib.hid hy
  have HYR := Lib.hid hyr
  have HRW := Lib.hid hrw
  have HRM := Lib.hid hrm
  clear hQ hroom hy hyr hrw hyv hrm
  have hne : ¬ p = w.heap.size := by omega
  have hne' : ¬ w.heap.size = p := by omega
  go_enter Try.func29, Try.ntmps29
  go_wp2_with fail
  have hA : Below w.heap.size w (w.alloc (.cells #[.int .u64 x.no, .int .i64 x.size, .slice ya x.data.length yc] 34)) := (Below.refl _ _).alloc (Nat.le_refl _) _
  refine (room_is x.size (HQ.out.below hA)).mono ?_
  rintro e w1 ⟨rfl, nd, rfl⟩
  rw [HR.out]
  have hQ1 := (HQ.out.below hA).below (below_drewN (Below.refl _ _) nd)
  have hB1 := hA.trans ((below_drewN (Below.refl _ _) nd).mono hA.size)
  have hg1 : ((w.alloc (.cells #[.int .u64 x.no, .int .i64 x.size, .slice ya x.data.length yc] 34)).drewN nd).heap[w.heap.size]? = some (.cells #[.int .u64 x.no, .int .i64 x.size, .slice ya x.data.length yc] 34 (0, 0)) := alloc_block_new w _
  generalize (w.alloc (.cells #[.int .u64 x.no, .int .i64 x.size, .slice ya x.data.length yc] 34)).drewN nd = w1 at *
  obtain ⟨g, eg⟩ : ∃ t, w.heap.size = t := ⟨_, rfl⟩
  rw [show (some (⟨w.heap.size, 0, none⟩ : Addr)) = some ⟨g, 0, none⟩ by rw [eg]]
  rw [eg] at hg1
  have HG := Lib.hid eg
  have c2 := hQ1.c2
  have c0 := hQ1.c0
  obtain ⟨ra, rc, erv⟩ := own_shape hQ1.ring
  rw [erv] at c0
  have hn := hQ1.room
  have hgl := lt_of_obj hg1
  have HQ1 := Lib.hid hQ1
  have HB1 := Lib.hid hB1
  have HG1 := Lib.hid hg1
  have HRV := Lib.hid erv
  clear hQ1 hB1 hA hne hne' hg1 eg erv
  go_upto_region 9 with (fail)
  go_cut [39] (fun v wc => v = .bool (decide (Q.L.length = n)) ∧ ∃ a, wc = w1.drewN a)
  case first =>
    by_cases hfull : Q.L.length = n
    · have hb : ((Q.L.length : Int) == (n : Int)) = true := by simp [hfull]
      have HFU := Lib.hid hfull
      clear hfull
      go_quiet (fail)
      go_wp2_with fail
      go_meet
      case rel => exact ⟨by rw [decide_eq_true HFU.out], _, rfl⟩
    · have hb : ((Q.L.length : Int) == (n : Int)) = false := by simp; omega
      go_quiet (fail)
      go_wp2_with fail
      go_meet
      case rel => exact ⟨by rw [decide_eq_false hfull], _, rfl⟩
  case rest =>
    obtain ⟨rfl, a, rfl⟩ := hcut
    have hQa := HQ1.out.below (below_drewN (Below.refl _ _) a)
    have hBa := HB1.out.trans ((below_drewN (Below.refl _ _) a).mono HB1.out.size)
    have hga : (w1.drewN a).heap[g]? = _ := HG1.out
    generalize w1.drewN a = w2 at *
    have HQa := Lib.hid hQa
    have HBa := Lib.hid hBa
    have HGa := Lib.hid hga
    clear hQa hBa hga c0 c2 HQ1 HB1 HG1 hgl
    go_upto_if 39 with (fail)
    go_cut [39] (fun (_ : Value) wc => PRoom w p r Q g x.no x.size (.slice ya x.data.length yc) wc)
    case first =>
      have hgr : r g = 0 := by rw [← HG.out]; exact HRW.out
      by_cases hfull : Q.L.length = n
      · have HFU := Lib.hid hfull
        rw [decide_eq_true hfull]
        clear hfull
        go_wp2_with fail
        refine (grow_is HQa.out HFU.out HRM.out.2.1).mono ?_
        rintro e w3 ⟨rfl, r', rv', n', xs', hQ3, hlt, hO3, hr3⟩
        have hg3 := hO3.keep HGa.out (by rw [hgr]; exact fun h => h rfl)
        have hrg3 : r' g = 0 := by
          rcases Nat.eq_zero_or_pos (r' g) with e | e
          · exact e
          · rcases hr3 g (by omega) with h | h
            · exact absurd hgr h
            · have := lt_of_obj HGa.out; omega
        have HREL : Hid (PRoom w p r Q g x.no x.size (.slice ya x.data.length yc) w3) := ⟨r', rv', 0, n', xs', hQ3, hlt, (Below.only HBa.out _).trans hO3, fun k hk => (hr3 k hk).imp id (fun h => Nat.le_trans HBa.out.size h), hg3, hrg3⟩
        clear hQ3 hO3 hr3 hg3 hrg3 hlt hgr
        go_wp2_with fail
        go_meet
        case rel => exact HREL.out
      · rw [decide_eq_false hfull]
        have HREL : Hid (PRoom w p r Q g x.no x.size (.slice ya x.data.length yc) w2) := ⟨r, rv, f, n, xs, HQa.out, by omega, Below.only HBa.out _, fun k hk => .inl hk, HGa.out, hgr⟩
        clear hfull hgr
        go_wp2_with fail
        go_meet
        case rel => exact HREL.out
    case rest =>
      clear HQa HBa HGa
      obtain ⟨r', rv', f', n', xs', hQc, hlt, hOc, hrc, hgc, hgz⟩ := hcut
      obtain ⟨g2, cap, erv2, hg2l, hncap, hcell⟩ := row_cell hQc.ring (by omega)
      subst erv2
      have hff : f' < n' := by have := hQc.from_; omega
      have hcap := hQc.cap
      have c2 := hQc.c2
      have c3 := hQc.c3
      have f2 := hQc.fr 2
      have f3 := hQc.fr 3
      have x1 : wc.cell? ⟨g, 1, none⟩ = _ := cell_of_block hgc 1
      dsimp at x1
      have hgp : ¬ g = p := fun e => by rw [e, hQc.rp] at hgz; exact absurd hgz (by decide)
      have hgp' : ¬ p = g := fun e => hgp e.symm
      have hsum := hQc.sum
      have hbound := hQc.bound
      have hrm := HRM.out
      have hbig : sumQ Q.L + x.size ≤ 9223372036854775807 := by omega
      have hb2 := setCell_block (setCell_block hQc.blk 2 (.int .i64 ((Q.L.length : Int) + 1))) 3 (.int .i64 ((sumQ Q.L : Int) + (x.size : Int)))
      have hO2 : Only (· = p) wc ((wc.setCell ⟨p, 2, none⟩ (.int .i64 ((Q.L.length : Int) + 1))).setCell ⟨p, 3, none⟩ (.int .i64 ((sumQ Q.L : Int) + (x.size : Int)))) := Only.setCell (p := ⟨p, 3, none⟩) (Only.setCell (p := ⟨p, 2, none⟩) (Only.refl (· = p) wc) (fun _ => rfl) _) (fun _ => rfl) _
      have hL2 : Q.L.length < 200000 := by omega
      have HQC := Lib.hid hQc
      have HOC := Lib.hid hOc
      have HRC := Lib.hid hrc
      have HGC := Lib.hid hgc
      have HGZ := Lib.hid hgz
      have HCE := Lib.hid hcell
      have HB2 := Lib.hid hb2
      have HO2 := Lib.hid hO2
      clear hQc hOc hrc hgc hgz hcell hb2 hO2 hrm
      go_wp2_with fail
      go_region
      have hd0 : ((wc.setCell ⟨p, 2, none⟩ (.int .i64 ((Q.L.length : Int) + 1))).setCell ⟨p, 3, none⟩ (.int .i64 ((sumQ Q.L : Int) + (x.size : Int)))).drew.heap = ((wc.setCell ⟨p, 2, none⟩ (.int .i64 ((Q.L.length : Int) + 1))).setCell ⟨p, 3, none⟩ (.int .i64 ((sumQ Q.L : Int) + (x.size : Int)))).heap := rfl
      have hb4 := HB2.out
      rw [← hd0] at hb4
      have hO4 := HO2.out.drew
      generalize ((wc.setCell ⟨p, 2, none⟩ (.int .i64 ((Q.L.length : Int) + 1))).setCell ⟨p, 3, none⟩ (.int .i64 ((sumQ Q.L : Int) + (x.size : Int)))).drew = w4 at *
      have k0 : w4.cell? ⟨p, 0, none⟩ = _ := cell_of_block hb4 0
      have k1 : w4.cell? ⟨p, 1, none⟩ = _ := cell_of_block hb4 1
      have k2 : w4.cell? ⟨p, 2, none⟩ = _ := cell_of_block hb4 2
      have hg4 := hO4.keep HGC.out hgp
      have y0 : w4.cell? ⟨g, 0, none⟩ = _ := cell_of_block hg4 0
      have y1 : w4.cell? ⟨g, 1, none⟩ = _ := cell_of_block hg4 1
      have y2 : w4.cell? ⟨g, 2, none⟩ = _ := cell_of_block hg4 2
      dsimp at k0 k1 k2 y0 y1 y2
      have hrg2 : r' g2 = 2 := HQC.out.rr g2 rfl
      have hpg2 : g2 ≠ p := fun e => by rw [e, HQC.out.rp] at hrg2; exact absurd hrg2 (by decide)
      have hrow4 := own_only HQC.out.ring hO4 (fun k hk e => by injection hk with hk; exact hpg2 (by rw [← e]; exact hk))
      obtain ⟨g2', cap', ev', hg24, _, hcell4⟩ := row_cell hrow4 (by omega)
      injection ev' with ev1 ev2 ev3
      injection ev1 with ev1
      injection ev1 with ev1
      subst ev1
      clear ev2 ev3
      have hxl : xs'.length = n' * 3 := HQC.out.ring.1
      have hmod := Nat.mod_lt (f' + Q.L.length) (show 0 < n' by omega)
      obtain ⟨u0, hu0⟩ : ∃ u, xs'[(f' + Q.L.length) % n' * 3]? = some u := ⟨_, List.getElem?_eq_getElem (by omega)⟩
      obtain ⟨u1, hu1⟩ : ∃ u, xs'[(f' + Q.L.length) % n' * 3 + 1]? = some u := ⟨_, List.getElem?_eq_getElem (by omega)⟩
      obtain ⟨u2, hu2⟩ : ∃ u, xs'[(f' + Q.L.length) % n' * 3 + 2]? = some u := ⟨_, List.getElem?_eq_getElem (by omega)⟩
      have q0 := (hcell4 ((f' + Q.L.length) % n' * 3) (by omega)).trans hu0
      have q1 := (hcell4 ((f' + Q.L.length) % n' * 3 + 1) (by omega)).trans hu1
      have q2 := (hcell4 ((f' + Q.L.length) % n' * 3 + 2) (by omega)).trans hu2
      obtain ⟨cc, hcc⟩ := row_type hrow4 g2 rfl
      have z0 : ∀ j, w4.frozen? ⟨g2, j, none⟩ = false := fun j => free_of_block hcc j
      have hpl4 := lt_of_obj hb4
      have hgl4 := lt_of_obj hg4
      have hy4 : Holds8 w4 (.slice ya x.data.length yc) x.data := holds_only (holds_only HY.out HOC.out (fun h0 k hk e => e (HYR.out h0 k hk))) hO4 (fun h0 k hk e => by
        have h1 := HYR.out h0 k hk
        rw [e, HQ.out.rp] at h1
        exact absurd h1 (by decide))
      have HY4 := Lib.hid hy4
      have HB4 := Lib.hid hb4
      have HO4 := Lib.hid hO4
      have Z0 := Lib.hid z0
      clear hy4 hb4 hO4 z0 hcc hrow4 hcell4 hu0 hu1 hu2 hg4 hd0 HB2 HO2 c2 c3 f2 f3 x1 hrg2 hpg2 hxl hmod hg24
      have hcap2 : n' ≤ 200000 := hcap
      have hL2' : Q.L.length ≤ 200000 := by omega
      have hgg2 : ¬ g = g2 := fun e => by have h1 := HGZ.out; rw [e, HQC.out.rr g2 rfl] at h1; exact absurd h1 (by decide)
      have hgg2' : ¬ g2 = g := fun e => hgg2 e.symm
      have hpp : ¬ g2 = p := fun e => by have h1 := HQC.out.rp; rw [← e, HQC.out.rr g2 rfl] at h1; exact absurd h1 (by decide)
      have hpp' : ¬ p = g2 := fun e => hpp e.symm
      have i1 : IntKind.i64.wrap ((Q.L.length : Int) + 1 - 1) = (Q.L.length : Int) := by rw [IntWalk.i64_in _ (by omega)]; omega
      have i2 : (Q.L.length : Int) + 1 - 1 = (Q.L.length : Int) := by omega
      have i3 : IntKind.i64.wrap (Q.L.length : Int) = (Q.L.length : Int) := IntWalk.i64_in _ (by omega)
      clear i1
      go_wp2_with fail
      go_region_held3 (fun w' => w'.cell? ⟨p, 2, none⟩ = some (.int .i64 ((Q.L.length : Int) + 1)) ∧ w'.cell? ⟨g, 0, none⟩ = some (.int .u64 x.no) ∧ w'.cell? ⟨g, 1, none⟩ = some (.int .i64 x.size) ∧ w'.cell? ⟨g, 2, none⟩ = some (.slice ya x.data.length yc)) (go_keep)
        (first
          | (go_at_call 49; (with_reducible refine Calls.mono (place_is (p := p) (g := g2) (c := cap) (f := f') (n := n') Q.L.length ?_ ?_ hff hcap2 hL2') ?_)
             · exact k0
             · exact k1
             rintro e w5 ⟨rfl, nd, rfl⟩)
          | (go_at_call 48; (with_reducible refine Calls.mono (copied_is x.no x.size _ x.data _ ?_ hd) ?_)
             · exact HY4.out.below (below_drewN (Below.refl _ _) _)
             rintro e w6 ⟨v, rfl, ho, hB6⟩
             obtain ⟨av, cv, ev⟩ := own_shape ho
             subst ev
             have hB6' : Below w4.heap.size w4 w6 := (below_drewN (Below.refl w4.heap.size w4) _).trans hB6
             have hs6 := hB6'.size
             have p2 := (hB6'.cell (p := ⟨p, 2, none⟩) hpl4).trans k2
             have v0 := (hB6'.cell (p := ⟨g, 0, none⟩) hgl4).trans y0
             have v1 := (hB6'.cell (p := ⟨g, 1, none⟩) hgl4).trans y1
             have v2 := (hB6'.cell (p := ⟨g, 2, none⟩) hgl4).trans y2
             have hg2w : g2 < w4.heap.size := World.block_lt_of_cell? w4 _ q0
             have t0 := (hB6'.cell (p := ⟨g2, (f' + Q.L.length) % n' * 3, none⟩) hg2w).trans q0
             have t1 := (hB6'.cell (p := ⟨g2, (f' + Q.L.length) % n' * 3 + 1, none⟩) hg2w).trans q1
             have t2 := (hB6'.cell (p := ⟨g2, (f' + Q.L.length) % n' * 3 + 2, none⟩) hg2w).trans q2
             have z6 : w6.frozen? ⟨g2, (f' + Q.L.length) % n' * 3, none⟩ = false := (hB6'.frozen (p := ⟨g2, (f' + Q.L.length) % n' * 3, none⟩) hg2w).trans (Z0.out _)
             have z7 : w6.frozen? ⟨g2, (f' + Q.L.length) % n' * 3 + 1, none⟩ = false := (hB6'.frozen (p := ⟨g2, (f' + Q.L.length) % n' * 3 + 1, none⟩) hg2w).trans (Z0.out _)
             have z8 : w6.frozen? ⟨g2, (f' + Q.L.length) % n' * 3 + 2, none⟩ = false := (hB6'.frozen (p := ⟨g2, (f' + Q.L.length) % n' * 3 + 2, none⟩) hg2w).trans (Z0.out _)
             have HO6 := Lib.hid ho
             have HB6 := Lib.hid hB6'
             clear ho hB6 hB6'))
      have hend := push_end (w := w) (r := r) x HQC.out hlt HOC.out HRC.out HQ.out.rp HQ.out.lt HO4.out (by exact HB4.out) HB6.out (own_lower HO6.out (by exact Nat.le_refl _)) HR.out hd
      have HEND := Lib.hid hend
      clear hend k0 k1 k2 y0 y1 y2 q0 q1 q2 p2 v0 v1 v2 t0 t1 t2 z6 z7 z8 i2 i3
      go_wp2_with fail
      go_ret
      obtain ⟨r'', xs'', h1, h2, h3⟩ := HEND.out
      exact ⟨rfl, r'', _, f', n', xs'', h1, h2, h3⟩
end Go.Proofs.Ythipfcmjpgbemaa

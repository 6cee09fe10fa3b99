/- Push where there is room, walked: the walk. -/
import Derived.Test.YthipfcmjpgbemaaGd
namespace Go.Proofs.Ythipfcmjpgbemaa
open Go.RowKit

/-- Behind a push that went well. -/
def PushOk (w : World) (p : Nat) (r : Nat → Nat) (Q : QS) (x : It) (e : Ending) (w' : World) : Prop :=
  e = .returned (.int .i64 0) ∧ ∃ r' rv' f' n' xs', IsQ w' p r' (pushed Q x) rv' f' n' xs' ∧ Only (fun k => r k ≠ 0) w w' ∧ ∀ k, r' k ≠ 0 → r k ≠ 0 ∨ w.heap.size ≤ k

set_option maxRecDepth 100000 in
set_option maxHeartbeats 600000 in
theorem push_ok (x : It) (y : Value) {w : World} {p : Nat} {r : Nat → Nat} {Q : QS} {rv : Value} {f n : Nat} {xs : List Value} (hQ : IsQ w p r Q rv f n xs) (hy : Holds8 w y x.data) (hyr : 0 < x.data.length → ∀ k, y.ownBlock = some k → r k = 0) (hroom : roomB Q x.size = true) (hd : x.data.length ≤ 1000000) :
    Calls Try.prog 29 #[.pointer (some ⟨p, 0, none⟩), .agg #[.int .u64 x.no, .int .i64 x.size, y]] w (PushOk w p r Q x) := by
  obtain ⟨ya, yc, hyv, _⟩ := id hy
  have hp := lt_of_obj hQ.blk
  have hrm : roomB Q x.size = true := hroom
  simp only [roomB, decide_eq_true_eq] at hrm
  have hrw : r w.heap.size = 0 := by
    rcases Nat.eq_zero_or_pos (r w.heap.size) with e | e
    · exact e
    · exact absurd (hQ.lt _ (by omega)) (Nat.lt_irrefl _)
  have hsz : x.size ≤ 9223372036854775807 := by have := hQ.bound; omega
  rw [hyv] at hy hyr ⊢
  have HQ := Lib.hid hQ
  have HR := Lib.hid hroom
  have HY := Lib.hid hy
  have HYR := Lib.hid hyr
  have HRW := Lib.hid hrw
  have HRM := Lib.hid hrm
  clear hQ hroom hy hyr hrw hyv hrm
  have hne : ¬ p = w.heap.size := by omega
  have hne' : ¬ w.heap.size = p := by omega
  go_enter Try.func29, Try.ntmps29
  go_wp2_with fail
  have hA : Below w.heap.size w (w.alloc (.cells #[.int .u64 x.no, .int .i64 x.size, .slice ya x.data.length yc] 34)) := (Below.refl _ _).alloc (Nat.le_refl _) _
  refine (room_is x.size (HQ.out.below hA)).mono ?_
  rintro e w1 ⟨rfl, nd, rfl⟩
  rw [HR.out]
  have hQ1 := (HQ.out.below hA).below (below_drewN (Below.refl _ _) nd)
  have hB1 := hA.trans ((below_drewN (Below.refl _ _) nd).mono hA.size)
  have hg1 : ((w.alloc (.cells #[.int .u64 x.no, .int .i64 x.size, .slice ya x.data.length yc] 34)).drewN nd).heap[w.heap.size]? = some (.cells #[.int .u64 x.no, .int .i64 x.size, .slice ya x.data.length yc] 34 (0, 0)) := alloc_block_new w _
  generalize (w.alloc (.cells #[.int .u64 x.no, .int .i64 x.size, .slice ya x.data.length yc] 34)).drewN nd = w1 at *
  obtain ⟨g, eg⟩ : ∃ t, w.heap.size = t := ⟨_, rfl⟩
  rw [show (some (⟨w.heap.size, 0, none⟩ : Addr)) = some ⟨g, 0, none⟩ by rw [eg]]
  rw [eg] at hg1
  have HG := Lib.hid eg
  have c2 := hQ1.c2
  have c0 := hQ1.c0
  obtain ⟨ra, rc, erv⟩ := own_shape hQ1.ring
  rw [erv] at c0
  have hn := hQ1.room
  have hgl := lt_of_obj hg1
  have HQ1 := Lib.hid hQ1
  have HB1 := Lib.hid hB1
  have HG1 := Lib.hid hg1
  have HRV := Lib.hid erv
  clear hQ1 hB1 hA hne hne' hg1 eg erv
  go_upto_region 9 with (fail)
  go_cut [39] (fun v wc => v = .bool (decide (Q.L.length = n)) ∧ ∃ a, wc = w1.drewN a)
  case first =>
    by_cases hfull : Q.L.length = n
    · have hb : ((Q.L.length : Int) == (n : Int)) = true := by simp [hfull]
      have HFU := Lib.hid hfull
      clear hfull
      go_quiet (fail)
      go_wp2_with fail
      go_meet
      case rel => exact ⟨by rw [decide_eq_true HFU.out], _, rfl⟩
    · have hb : ((Q.L.length : Int) == (n : Int)) = false := by simp; omega
      go_quiet (fail)
      go_wp2_with fail
      go_meet
      case rel => exact ⟨by rw [decide_eq_false hfull], _, rfl⟩
  case rest =>
    obtain ⟨rfl, a, rfl⟩ := hcut
    have hQa := HQ1.out.below (below_drewN (Below.refl _ _) a)
    have hBa := HB1.out.trans ((below_drewN (Below.refl _ _) a).mono HB1.out.size)
    have hga : (w1.drewN a).heap[g]? = _ := HG1.out
    generalize w1.drewN a = w2 at *
    have HQa := Lib.hid hQa
    have HBa := Lib.hid hBa
    have HGa := Lib.hid hga
    clear hQa hBa hga c0 c2 HQ1 HB1 HG1 hgl
    go_upto_if 39 with (fail)
    go_cut [39] (fun (_ : Value) wc => PRoom w p r Q g x.no x.size (.slice ya x.data.length yc) wc)
    case first =>
      have hgr : r g = 0 := by rw [← HG.out]; exact HRW.out
      by_cases hfull : Q.L.length = n
      · have HFU := Lib.hid hfull
        rw [decide_eq_true hfull]
        clear hfull
        go_wp2_with fail
        refine (grow_is HQa.out HFU.out HRM.out.2.1).mono ?_
        rintro e w3 ⟨rfl, r', rv', n', xs', hQ3, hlt, hO3, hr3⟩
        have hg3 := hO3.keep HGa.out (by rw [hgr]; exact fun h => h rfl)
        have hrg3 : r' g = 0 := by
          rcases Nat.eq_zero_or_pos (r' g) with e | e
          · exact e
          · rcases hr3 g (by omega) with h | h
            · exact absurd hgr h
            · have := lt_of_obj HGa.out; omega
        have HREL : Hid (PRoom w p r Q g x.no x.size (.slice ya x.data.length yc) w3) := ⟨r', rv', 0, n', xs', hQ3, hlt, (Below.only HBa.out _).trans hO3, fun k hk => (hr3 k hk).imp id (fun h => Nat.le_trans HBa.out.size h), hg3, hrg3⟩
        clear hQ3 hO3 hr3 hg3 hrg3 hlt hgr
        go_wp2_with fail
        go_meet
        case rel => exact HREL.out
      · rw [decide_eq_false hfull]
        have HREL : Hid (PRoom w p r Q g x.no x.size (.slice ya x.data.length yc) w2) := ⟨r, rv, f, n, xs, HQa.out, by omega, Below.only HBa.out _, fun k hk => .inl hk, HGa.out, hgr⟩
        clear hfull hgr
        go_wp2_with fail
        go_meet
        case rel => exact HREL.out
    case rest =>
      clear HQa HBa HGa
      obtain ⟨r', rv', f', n', xs', hQc, hlt, hOc, hrc, hgc, hgz⟩ := hcut
      obtain ⟨g2, cap, erv2, hg2l, hncap, hcell⟩ := row_cell hQc.ring (by omega)
      subst erv2
      have hff : f' < n' := by have := hQc.from_; omega
      have hcap := hQc.cap
      have c2 := hQc.c2
      have c3 := hQc.c3
      have f2 := hQc.fr 2
      have f3 := hQc.fr 3
      have x1 : wc.cell? ⟨g, 1, none⟩ = _ := cell_of_block hgc 1
      dsimp at x1
      have hgp : ¬ g = p := fun e => by rw [e, hQc.rp] at hgz; exact absurd hgz (by decide)
      have hgp' : ¬ p = g := fun e => hgp e.symm
      have hsum := hQc.sum
      have hbound := hQc.bound
      have hrm := HRM.out
      have hbig : sumQ Q.L + x.size ≤ 9223372036854775807 := by omega
      have hb2 := setCell_block (setCell_block hQc.blk 2 (.int .i64 ((Q.L.length : Int) + 1))) 3 (.int .i64 ((sumQ Q.L : Int) + (x.size : Int)))
      have hO2 : Only (· = p) wc ((wc.setCell ⟨p, 2, none⟩ (.int .i64 ((Q.L.length : Int) + 1))).setCell ⟨p, 3, none⟩ (.int .i64 ((sumQ Q.L : Int) + (x.size : Int)))) := Only.setCell (p := ⟨p, 3, none⟩) (Only.setCell (p := ⟨p, 2, none⟩) (Only.refl (· = p) wc) (fun _ => rfl) _) (fun _ => rfl) _
      have hL2 : Q.L.length < 200000 := by omega
      have HQC := Lib.hid hQc
      have HOC := Lib.hid hOc
      have HRC := Lib.hid hrc
      have HGC := Lib.hid hgc
      have HGZ := Lib.hid hgz
      have HCE := Lib.hid hcell
      have HB2 := Lib.hid hb2
      have HO2 := Lib.hid hO2
      clear hQc hOc hrc hgc hgz hcell hb2 hO2 hrm
      go_wp2_with fail
      go_region
      have hd0 : ((wc.setCell ⟨p, 2, none⟩ (.int .i64 ((Q.L.length : Int) + 1))).setCell ⟨p, 3, none⟩ (.int .i64 ((sumQ Q.L : Int) + (x.size : Int)))).drew.heap = ((wc.setCell ⟨p, 2, none⟩ (.int .i64 ((Q.L.length : Int) + 1))).setCell ⟨p, 3, none⟩ (.int .i64 ((sumQ Q.L : Int) + (x.size : Int)))).heap := rfl
      have hb4 := HB2.out
      rw [← hd0] at hb4
      have hO4 := HO2.out.drew
      generalize ((wc.setCell ⟨p, 2, none⟩ (.int .i64 ((Q.L.length : Int) + 1))).setCell ⟨p, 3, none⟩ (.int .i64 ((sumQ Q.L : Int) + (x.size : Int)))).drew = w4 at *
      have k0 : w4.cell? ⟨p, 0, none⟩ = _ := cell_of_block hb4 0
      have k1 : w4.cell? ⟨p, 1, none⟩ = _ := cell_of_block hb4 1
      have k2 : w4.cell? ⟨p, 2, none⟩ = _ := cell_of_block hb4 2
      have hg4 := hO4.keep HGC.out hgp
      have y0 : w4.cell? ⟨g, 0, none⟩ = _ := cell_of_block hg4 0
      have y1 : w4.cell? ⟨g, 1, none⟩ = _ := cell_of_block hg4 1
      have y2 : w4.cell? ⟨g, 2, none⟩ = _ := cell_of_block hg4 2
      dsimp at k0 k1 k2 y0 y1 y2
      have hrg2 : r' g2 = 2 := HQC.out.rr g2 rfl
      have hpg2 : g2 ≠ p := fun e => by rw [e, HQC.out.rp] at hrg2; exact absurd hrg2 (by decide)
      have hrow4 := own_only HQC.out.ring hO4 (fun k hk e => by injection hk with hk; exact hpg2 (by rw [← e]; exact hk))
      obtain ⟨g2', cap', ev', hg24, _, hcell4⟩ := row_cell hrow4 (by omega)
      injection ev' with ev1 ev2 ev3
      injection ev1 with ev1
      injection ev1 with ev1
      subst ev1
      clear ev2 ev3
      have hxl : xs'.length = n' * 3 := HQC.out.ring.1
      have hmod := Nat.mod_lt (f' + Q.L.length) (show 0 < n' by omega)
      obtain ⟨u0, hu0⟩ : ∃ u, xs'[(f' + Q.L.length) % n' * 3]? = some u := ⟨_, List.getElem?_eq_getElem (by omega)⟩
      obtain ⟨u1, hu1⟩ : ∃ u, xs'[(f' + Q.L.length) % n' * 3 + 1]? = some u := ⟨_, List.getElem?_eq_getElem (by omega)⟩
      obtain ⟨u2, hu2⟩ : ∃ u, xs'[(f' + Q.L.length) % n' * 3 + 2]? = some u := ⟨_, List.getElem?_eq_getElem (by omega)⟩
      have q0 := (hcell4 ((f' + Q.L.length) % n' * 3) (by omega)).trans hu0
      have q1 := (hcell4 ((f' + Q.L.length) % n' * 3 + 1) (by omega)).trans hu1
      have q2 := (hcell4 ((f' + Q.L.length) % n' * 3 + 2) (by omega)).trans hu2
      obtain ⟨cc, hcc⟩ := row_type hrow4 g2 rfl
      have z0 : ∀ j, w4.frozen? ⟨g2, j, none⟩ = false := fun j => free_of_block hcc j
      have hpl4 := lt_of_obj hb4
      have hgl4 := lt_of_obj hg4
      have hy4 : Holds8 w4 (.slice ya x.data.length yc) x.data := holds_only (holds_only HY.out HOC.out (fun h0 k hk e => e (HYR.out h0 k hk))) hO4 (fun h0 k hk e => by
        have h1 := HYR.out h0 k hk
        rw [e, HQ.out.rp] at h1
        exact absurd h1 (by decide))
      have HY4 := Lib.hid hy4
      have HB4 := Lib.hid hb4
      have HO4 := Lib.hid hO4
      have Z0 := Lib.hid z0
      clear hy4 hb4 hO4 z0 hcc hrow4 hcell4 hu0 hu1 hu2 hg4 hd0 HB2 HO2 c2 c3 f2 f3 x1 hrg2 hpg2 hxl hmod hg24
      have hcap2 : n' ≤ 200000 := hcap
      have hL2' : Q.L.length ≤ 200000 := by omega
      have hgg2 : ¬ g = g2 := fun e => by have h1 := HGZ.out; rw [e, HQC.out.rr g2 rfl] at h1; exact absurd h1 (by decide)
      have hgg2' : ¬ g2 = g := fun e => hgg2 e.symm
      have hpp : ¬ g2 = p := fun e => by have h1 := HQC.out.rp; rw [← e, HQC.out.rr g2 rfl] at h1; exact absurd h1 (by decide)
      have hpp' : ¬ p = g2 := fun e => hpp e.symm
      have i1 : IntKind.i64.wrap ((Q.L.length : Int) + 1 - 1) = (Q.L.length : Int) := by rw [IntWalk.i64_in _ (by omega)]; omega
      have i2 : (Q.L.length : Int) + 1 - 1 = (Q.L.length : Int) := by omega
      have i3 : IntKind.i64.wrap (Q.L.length : Int) = (Q.L.length : Int) := IntWalk.i64_in _ (by omega)
      clear i1
      go_wp2_with fail
      go_region_held3 (fun w' => w'.cell? ⟨p, 2, none⟩ = some (.int .i64 ((Q.L.length : Int) + 1)) ∧ w'.cell? ⟨g, 0, none⟩ = some (.int .u64 x.no) ∧ w'.cell? ⟨g, 1, none⟩ = some (.int .i64 x.size) ∧ w'.cell? ⟨g, 2, none⟩ = some (.slice ya x.data.length yc)) (go_keep)
        (first
          | (go_at_call 49; (with_reducible refine Calls.mono (place_is (p := p) (g := g2) (c := cap) (f := f') (n := n') Q.L.length ?_ ?_ hff hcap2 hL2') ?_)
             · exact k0
             · exact k1
             rintro e w5 ⟨rfl, nd, rfl⟩)
          | (go_at_call 48; (with_reducible refine Calls.mono (copied_is x.no x.size _ x.data _ ?_ hd) ?_)
             · exact HY4.out.below (below_drewN (Below.refl _ _) _)
             rintro e w6 ⟨v, rfl, ho, hB6⟩
             obtain ⟨av, cv, ev⟩ := own_shape ho
             subst ev
             have hB6' : Below w4.heap.size w4 w6 := (below_drewN (Below.refl w4.heap.size w4) _).trans hB6
             have hs6 := hB6'.size
             have p2 := (hB6'.cell (p := ⟨p, 2, none⟩) hpl4).trans k2
             have v0 := (hB6'.cell (p := ⟨g, 0, none⟩) hgl4).trans y0
             have v1 := (hB6'.cell (p := ⟨g, 1, none⟩) hgl4).trans y1
             have v2 := (hB6'.cell (p := ⟨g, 2, none⟩) hgl4).trans y2
             have hg2w : g2 < w4.heap.size := World.block_lt_of_cell? w4 _ q0
             have t0 := (hB6'.cell (p := ⟨g2, (f' + Q.L.length) % n' * 3, none⟩) hg2w).trans q0
             have t1 := (hB6'.cell (p := ⟨g2, (f' + Q.L.length) % n' * 3 + 1, none⟩) hg2w).trans q1
             have t2 := (hB6'.cell (p := ⟨g2, (f' + Q.L.length) % n' * 3 + 2, none⟩) hg2w).trans q2
             have z6 : w6.frozen? ⟨g2, (f' + Q.L.length) % n' * 3, none⟩ = false := (hB6'.frozen (p := ⟨g2, (f' + Q.L.length) % n' * 3, none⟩) hg2w).trans (Z0.out _)
             have z7 : w6.frozen? ⟨g2, (f' + Q.L.length) % n' * 3 + 1, none⟩ = false := (hB6'.frozen (p := ⟨g2, (f' + Q.L.length) % n' * 3 + 1, none⟩) hg2w).trans (Z0.out _)
             have z8 : w6.frozen? ⟨g2, (f' + Q.L.length) % n' * 3 + 2, none⟩ = false := (hB6'.frozen (p := ⟨g2, (f' + Q.L.length) % n' * 3 + 2, none⟩) hg2w).trans (Z0.out _)
             have HO6 := Lib.hid ho
             have HB6 := Lib.hid hB6'
             clear ho hB6 hB6'))
      have hend := push_end (w := w) (r := r) x HQC.out hlt HOC.out HRC.out HQ.out.rp HQ.out.lt HO4.out (by exact HB4.out) HB6.out (own_lower HO6.out (by exact Nat.le_refl _)) HR.out hd
      have HEND := Lib.hid hend
      clear hend k0 k1 k2 y0 y1 y2 q0 q1 q2 p2 v0 v1 v2 t0 t1 t2 z6 z7 z8 i2 i3
      go_wp2_with fail
      go_ret
      obtain ⟨r'', xs'', h1, h2, h3⟩ := HEND.out
      exact ⟨rfl, r'', _, f', n', xs'', h1, h2, h3⟩
end Go.Proofs.Ythipfcmjpgbemaa

/- Head and Pop, walked. -/
namespace Go.Proofs.Ythipfcmjpgbemaa
open Go.RowKit

theorem head_nil (w : World) :
    Calls Try.prog 52 #[.pointer none] w fun e w' => e = .returned (.tuple #[.agg #[.int .u64 0, .int .i64 0, .slice none 0 0], .bool false]) ∧ Below w.heap.size w w' := by
  go_enter Try.func52, Try.ntmps52
  go_wp2_with fail
  refine (len_nil _).mono ?_
  rintro e w' ⟨rfl, rfl⟩
  go_wp2_with fail
  exact bodyPost_ret (v := .tuple #[.agg #[.int .u64 0, .int .i64 0, .slice none 0 0], .bool false]) (by simp [results, Try.results52, go_sem]) rfl ⟨rfl, (Below.refl _ _).alloc (Nat.le_refl _) _⟩

theorem head_empty {w : World} {p : Nat} {r : Nat → Nat} {Q : QS} {rv : Value} {f n : Nat} {xs : List Value} (hQ : IsQ w p r Q rv f n xs) (h0 : Q.L = []) :
    Calls Try.prog 52 #[.pointer (some ⟨p, 0, none⟩)] w fun e w' => e = .returned (.tuple #[.agg #[.int .u64 0, .int .i64 0, .slice none 0 0], .bool false]) ∧ Below w.heap.size w w' := by
  have hA : Below w.heap.size w (w.alloc (.cells #[.int .u64 0, .int .i64 0, .slice none 0 0] 34)) := (Below.refl _ _).alloc (Nat.le_refl _) _
  have hl := len_is (hQ.below hA)
  rw [h0] at hl
  have HL := Lib.hid hl
  clear hl hQ h0 hA
  go_enter Try.func52, Try.ntmps52
  go_wp2_with fail
  refine HL.out.mono ?_
  rintro e w' ⟨rfl, rfl⟩
  go_wp2_with fail
  exact bodyPost_ret (v := .tuple #[.agg #[.int .u64 0, .int .i64 0, .slice none 0 0], .bool false]) (by simp [results, Try.results52, go_sem]) rfl ⟨rfl, (Below.refl _ _).alloc (Nat.le_refl _) _⟩

theorem place0 {w : World} {p : Nat} {g c f n : Nat} (c0 : w.cell? ⟨p, 0, none⟩ = some (.slice (some ⟨g, 0, none⟩) n c)) (c1 : w.cell? ⟨p, 1, none⟩ = some (.int .i64 f)) (hf : f < n) (hn : n ≤ 200000) :
    Calls Try.prog 49 #[.pointer (some ⟨p, 0, none⟩), .int .i64 0] w fun e w' => e = .returned (.pointer (some ⟨g, f * 3, none⟩)) ∧ ∃ n, w' = w.drewN n := by
  have h := place_is 0 c0 c1 hf hn (by omega)
  rw [Nat.add_zero, Nat.mod_eq_of_lt hf] at h
  exact h

/-- Behind Head, where there is one. -/
def HeadOk (w : World) (x : It) (e : Ending) (w' : World) : Prop := ∃ v, e = .returned (.tuple #[.agg #[.int .u64 x.no, .int .i64 x.size, v], .bool true]) ∧ Own8 w' w.heap.size v x.data ∧ Below w.heap.size w w'

set_option maxRecDepth 100000 in
theorem head_is {w : World} {p : Nat} {r : Nat → Nat} {Q : QS} {rv : Value} {f n : Nat} {xs : List Value} (hQ : IsQ w p r Q rv f n xs) (x : It) (L : List It) (hL : Q.L = x :: L) :
    Calls Try.prog 52 #[.pointer (some ⟨p, 0, none⟩)] w (HeadOk w x) := by
  have hA : Below w.heap.size w (w.alloc (.cells #[.int .u64 0, .int .i64 0, .slice none 0 0] 34)) := (Below.refl _ _).alloc (Nat.le_refl _) _
  have hQ1 := hQ.below hA
  have h2 := alloc_block_new w (.cells #[.int .u64 0, .int .i64 0, .slice none 0 0] 34)
  have hx : Q.L[0]? = some x := by rw [hL]; rfl
  have hlen : Q.L.length = L.length + 1 := by rw [hL]; rfl
  have hd := hQ.data x (List.mem_of_getElem? hx)
  have hroom := hQ.room
  have hcap := hQ.cap
  have hff : f < n := by have := hQ.from_; omega
  obtain ⟨y, hy⟩ := hQ1.rc 0 x hx
  obtain ⟨g, cap, erv, hg, hnc, hcell⟩ := row_cell hQ1.ring (by omega)
  rw [Nat.add_zero, Nat.mod_eq_of_lt hff] at hy
  have x0 := (hcell (f * 3) (by omega)).trans hy.c0
  have x1 := (hcell (f * 3 + 1) (by omega)).trans hy.c1
  have x2 := (hcell (f * 3 + 2) (by omega)).trans hy.c2
  have hy8 := hy.d.holds
  obtain ⟨ya, yc, ey⟩ := own_shape hy.d
  rw [ey] at x2 hy8
  have c0 := hQ1.c0
  rw [erv] at c0
  have c1 := hQ1.c1
  have HL := Lib.hid (len_is hQ1)
  obtain ⟨g2, eg⟩ : ∃ t, w.heap.size = t := ⟨_, rfl⟩
  rw [eg] at h2
  have hpos : (0 : Int) < (Q.L.length : Int) := by omega
  have HA := Lib.hid hA
  have H2 := Lib.hid h2
  have HY := Lib.hid hy8
  have HE := Lib.hid eg
  go_enter Try.func52, Try.ntmps52
  go_wp2_with fail
  clear hA hQ1 h2 hx hlen hy hcell ey erv hg hnc hQ hL hroom
  refine HL.out.mono ?_
  rintro e w' ⟨rfl, rfl⟩
  clear eg
  generalize w.alloc (.cells #[.int .u64 0, .int .i64 0, .slice none 0 0] 34) = w1 at *
  go_wp2_with fail
  refine (place0 c0 c1 hff hcap).mono ?_
  rintro e w2 ⟨rfl, nd, rfl⟩
  go_wp2_with fail
  refine (copied_is x.no x.size _ x.data _ (HY.out.below (below_drewN (Below.refl _ _) nd)) hd).mono ?_
  rintro e w3 ⟨v, rfl, ho, hB3⟩
  obtain ⟨av, cv, ev⟩ := own_shape ho
  subst ev
  have hB3' : Below w1.heap.size w1 w3 := (below_drewN (Below.refl w1.heap.size w1) nd).trans hB3
  have h3 := (hB3'.block g2 (lt_of_obj H2.out)).trans H2.out
  have m0 : w3.cell? ⟨g2, 0, none⟩ = _ := cell_of_block h3 0
  have m1 : w3.cell? ⟨g2, 1, none⟩ = _ := cell_of_block h3 1
  have m2 : w3.cell? ⟨g2, 2, none⟩ = _ := cell_of_block h3 2
  have f0 := free_of_block h3 0
  have f1 := free_of_block h3 1
  have f2 := free_of_block h3 2
  dsimp at m0 m1 m2
  have HO := Lib.hid ho
  have HB3 := Lib.hid hB3'
  clear ho hB3 hB3' h3 c0 c1 x0 x1 x2 HL
  go_wp2_with fail
  have hO5 : Only (· = g2) w3 (((w3.setCell ⟨g2, 0, none⟩ (.int .u64 x.no)).setCell ⟨g2, 1, none⟩ (.int .i64 x.size)).setCell ⟨g2, 2, none⟩ (.slice av x.data.length cv)) :=
    Only.setCell (p := ⟨g2, 2, none⟩) (Only.setCell (p := ⟨g2, 1, none⟩) (Only.setCell (p := ⟨g2, 0, none⟩) (Only.refl (· = g2) w3) (fun _ => rfl) _) (fun _ => rfl) _) (fun _ => rfl) _
  have hgl := lt_of_obj H2.out
  have hown := own_only HO.out hO5 (fun k hk e => by have h1 := own_ge HO.out k hk; have h2 : (w1.drewN nd).heap.size = w1.heap.size := rfl; omega)
  have hE := HE.out
  have hBf := (HA.out.trans (HB3.out.mono HA.out.size)).trans (hO5.below (B := w.heap.size) (Nat.le_trans HA.out.size HB3.out.size) (fun k hk e => by omega))
  have r0 : (((w3.setCell ⟨g2, 0, none⟩ (.int .u64 x.no)).setCell ⟨g2, 1, none⟩ (.int .i64 x.size)).setCell ⟨g2, 2, none⟩ (.slice av x.data.length cv)).cell? ⟨g2, 0, none⟩ = some (.int .u64 x.no) := by simp [go_sem, m0, m1, m2]
  have r1 : (((w3.setCell ⟨g2, 0, none⟩ (.int .u64 x.no)).setCell ⟨g2, 1, none⟩ (.int .i64 x.size)).setCell ⟨g2, 2, none⟩ (.slice av x.data.length cv)).cell? ⟨g2, 1, none⟩ = some (.int .i64 x.size) := by simp [go_sem, m0, m1, m2]
  have r2 : (((w3.setCell ⟨g2, 0, none⟩ (.int .u64 x.no)).setCell ⟨g2, 1, none⟩ (.int .i64 x.size)).setCell ⟨g2, 2, none⟩ (.slice av x.data.length cv)).cell? ⟨g2, 2, none⟩ = some (.slice av x.data.length cv) := by simp [go_sem, m0, m1, m2]
  have hA1 := HA.out.size
  generalize ((w3.setCell ⟨g2, 0, none⟩ (.int .u64 x.no)).setCell ⟨g2, 1, none⟩ (.int .i64 x.size)).setCell ⟨g2, 2, none⟩ (.slice av x.data.length cv) = w5 at *
  exact bodyPost_ret (v := .tuple #[.agg #[.int .u64 x.no, .int .i64 x.size, .slice av x.data.length cv], .bool true]) (by simp [results, Try.results52, go_sem, r0, r1, r2]) rfl ⟨_, rfl, own_lower hown hA1, hBf⟩
end Go.Proofs.Ythipfcmjpgbemaa

/- Pop, walked. -/
namespace Go.Proofs.Ythipfcmjpgbemaa
open Go.RowKit

theorem set3_blk {w : World} {g : Nat} {x y z : Value} {T : TypeId} (h : w.heap[g]? = some (.cells #[x, y, z] T (0, 0))) (a b c : Value) :
    (((w.setCell ⟨g, 0, none⟩ a).setCell ⟨g, 1, none⟩ b).setCell ⟨g, 2, none⟩ c).heap[g]? = some (.cells #[a, b, c] T (0, 0)) ∧ Only (· = g) w (((w.setCell ⟨g, 0, none⟩ a).setCell ⟨g, 1, none⟩ b).setCell ⟨g, 2, none⟩ c) :=
  ⟨setCell_block (setCell_block (setCell_block h 0 a) 1 b) 2 c, Only.setCell (p := ⟨g, 2, none⟩) (Only.setCell (p := ⟨g, 1, none⟩) (Only.setCell (p := ⟨g, 0, none⟩) (Only.refl (· = g) w) (fun _ => rfl) _) (fun _ => rfl) _) (fun _ => rfl) _⟩

theorem pop_none (pv : Value) (w : World) (hh : ∀ w' : World, Below w.heap.size w w' → Calls Try.prog 52 #[pv] w' fun e w'' => e = .returned (.tuple #[.agg #[.int .u64 0, .int .i64 0, .slice none 0 0], .bool false]) ∧ Below w'.heap.size w' w'') :
    Calls Try.prog 54 #[pv] w fun e w' => e = .returned (.tuple #[.agg #[.int .u64 0, .int .i64 0, .slice none 0 0], .bool false]) ∧ Below w.heap.size w w' := by
  have hA : Below w.heap.size w (w.alloc (.cells #[.int .u64 0, .int .i64 0, .slice none 0 0] 34)) := (Below.refl _ _).alloc (Nat.le_refl _) _
  have h2 := alloc_block_new w (.cells #[.int .u64 0, .int .i64 0, .slice none 0 0] 34)
  have HH := Lib.hid (hh _ hA)
  clear hh
  go_enter Try.func54, Try.ntmps54
  go_wp2_with fail
  refine HH.out.mono ?_
  rintro e w1 ⟨rfl, hB1⟩
  have h3 := (hB1.block w.heap.size (by simp)).trans h2
  obtain ⟨g2, eg⟩ : ∃ t, w.heap.size = t := ⟨_, rfl⟩
  rw [eg] at h3
  have hl := lt_of_obj h3
  have hne : ¬ g2 = w1.heap.size := by omega
  have hne' : ¬ w1.heap.size = g2 := by omega
  have m0 : w1.cell? ⟨g2, 0, none⟩ = _ := cell_of_block h3 0
  have m1 : w1.cell? ⟨g2, 1, none⟩ = _ := cell_of_block h3 1
  have m2 : w1.cell? ⟨g2, 2, none⟩ = _ := cell_of_block h3 2
  have f0 := free_of_block h3 0
  have f1 := free_of_block h3 1
  have f2 := free_of_block h3 2
  dsimp at m0 m1 m2
  have HB := Lib.hid (hA.trans (hB1.mono hA.size))
  have HE := Lib.hid eg
  have H3 := Lib.hid h3
  clear hB1 h3 h2 hA HH
  go_wp2_with fail
  have hE := HE.out
  have hs := HB.out.size
  obtain ⟨hb, hO⟩ := set3_blk H3.out (.int .u64 0) (.int .i64 0) (.slice none 0 0)
  have hBf := HB.out.trans (hO.below (B := w.heap.size) hs (fun k hk e => by omega))
  have hfin := (alloc_block_old (.cells #[.int .u64 0, .int .i64 0, .slice none 0 0] 34) (lt_of_obj hb)).trans hb
  have hBg := hBf.alloc hBf.size (.cells #[.int .u64 0, .int .i64 0, .slice none 0 0] 34)
  generalize ((((w1.setCell ⟨g2, 0, none⟩ (.int .u64 0)).setCell ⟨g2, 1, none⟩ (.int .i64 0)).setCell ⟨g2, 2, none⟩ (.slice none 0 0)).alloc (.cells #[.int .u64 0, .int .i64 0, .slice none 0 0] 34)) = wf at *
  have r0 : wf.cell? ⟨g2, 0, none⟩ = _ := cell_of_block hfin 0
  have r1 : wf.cell? ⟨g2, 1, none⟩ = _ := cell_of_block hfin 1
  have r2 : wf.cell? ⟨g2, 2, none⟩ = _ := cell_of_block hfin 2
  dsimp at r0 r1 r2
  exact bodyPost_ret (v := .tuple #[.agg #[.int .u64 0, .int .i64 0, .slice none 0 0], .bool false]) (by simp [results, Try.results54, go_sem, r0, r1, r2]) rfl ⟨rfl, hBg⟩

theorem pop_nil (w : World) :
    Calls Try.prog 54 #[.pointer none] w fun e w' => e = .returned (.tuple #[.agg #[.int .u64 0, .int .i64 0, .slice none 0 0], .bool false]) ∧ Below w.heap.size w w' :=
  pop_none _ w fun w' _ => head_nil w'
theorem pop_empty {w : World} {p : Nat} {r : Nat → Nat} {Q : QS} {rv : Value} {f n : Nat} {xs : List Value} (hQ : IsQ w p r Q rv f n xs) (h0 : Q.L = []) :
    Calls Try.prog 54 #[.pointer (some ⟨p, 0, none⟩)] w fun e w' => e = .returned (.tuple #[.agg #[.int .u64 0, .int .i64 0, .slice none 0 0], .bool false]) ∧ Below w.heap.size w w' :=
  pop_none _ w fun _ hB => head_empty (hQ.below hB) h0

/-- A queue behind a pop. -/
def popped (Q : QS) (L : List It) : QS := { Q with L := L }

theorem pop_end {w0 w1 w2 w3 : World} {p : Nat} {r : Nat → Nat} {Q : QS} {g cap f n : Nat} {xs : List Value} {x : It} {L : List It} (hQ : IsQ w1 p r Q (.slice (some ⟨g, 0, none⟩) n cap) f n xs) (hL : Q.L = x :: L) (hB1 : Below w0.heap.size w0 w1) (hwl : ∀ k, r k ≠ 0 → k < w0.heap.size)
    {xs2 : List Value} (hrow : w2.ownsRow 0 34 3 (.slice (some ⟨g, 0, none⟩) n cap) n xs2) (hxs : ∀ j, j < f * 3 ∨ f * 3 + 2 < j → xs2[j]? = xs[j]?) (hO2 : Only (· = g) w1 w2) (hO3 : Only (· = p) w2 w3)
    (hb : w3.heap[p]? = some (.cells #[.slice (some ⟨g, 0, none⟩) n cap, .int .i64 ((f + 1) % n : Nat), .int .i64 L.length, .int .i64 (sumQ L), .int .i64 Q.items, .int .i64 Q.bound, .int .u64 Q.drops] 120 (0, 0))) :
    IsQ w3 p r (popped Q L) (.slice (some ⟨g, 0, none⟩) n cap) ((f + 1) % n) n xs2 ∧ Only (fun k => r k ≠ 0) w0 w3 := by
  have hlen : Q.L.length = L.length + 1 := by rw [hL]; rfl
  have hsum : sumQ Q.L = x.size + sumQ L := by rw [hL]; simp [sumQ]
  have hroom := hQ.room
  have hf : f < n := by have := hQ.from_; omega
  have hrg : r g = 2 := hQ.rr g rfl
  have hfew := hQ.few
  have hsm := hQ.sum
  have hSg : ∀ k, r k ≠ 2 → ¬ k = g := fun k hk e => hk (by rw [e, hrg])
  have hSp : ∀ k, r k ≠ 1 → ¬ k = p := fun k hk e => hk (by rw [e, hQ.rp])
  have hs2 := hO2.size
  have hs3 := hO3.size
  refine ⟨⟨hb, own_only hrow hO3 (fun k hk e => by injection hk with hk; exact hSp g (by rw [hrg]; decide) (hk.trans e)), ?_, .inl (Nat.mod_lt _ (by omega)), ?_, hQ.cap, ?_, hQ.items, ?_, hQ.bound, ?_, hQ.rp, hQ.rr, fun k hk => by have := hQ.lt k hk; omega⟩, ?_⟩
  · intro i z hz
    have hz' : L[i]? = some z := hz
    have hi : i < L.length := (List.getElem?_eq_some_iff.1 hz').1
    obtain ⟨y, hy⟩ := hQ.rc (i + 1) z (by rw [hL]; exact hz')
    have hy3 := (hy.keep hO2 (fun k hk => hSg k (by rw [hk]; decide))).keep hO3 (fun k hk => hSp k (by rw [hk]; decide))
    have hmod : ((f + 1) % n + i) % n = (f + (i + 1)) % n := by rw [Nat.mod_add_mod]; congr 1; omega
    have hne : (f + (i + 1)) % n ≠ f := by
      intro e
      have e2 : (f + (i + 1)) % n = f % n := by rw [e, Nat.mod_eq_of_lt hf]
      have h1 := Nat.sub_mod_eq_zero_of_mod_eq e2
      rw [show f + (i + 1) - f = i + 1 by omega, Nat.mod_eq_of_lt (by omega)] at h1
      omega
    refine ⟨y, ?_, ?_, ?_, hy3.d, hy3.f⟩
    · rw [hmod, hxs _ (by omega)]; exact hy3.c0
    · rw [hmod, hxs _ (by omega)]; exact hy3.c1
    · rw [hmod, hxs _ (by omega)]; exact hy3.c2
  · simp [popped]; omega
  · simp [popped]; omega
  · simp [popped]; omega
  · intro z hz; exact hQ.data z (by rw [hL]; exact List.mem_cons_of_mem _ hz)
  · exact (Below.only hB1 _).trans ((hO2.mono (fun k _ e => by rw [e, hrg]; decide)).trans (hO3.mono (fun k _ e => by rw [e, hQ.rp]; decide)))

end Go.Proofs.Ythipfcmjpgbemaa

/- Pop where there is one, walked. -/
namespace Go.Proofs.Ythipfcmjpgbemaa
open Go.RowKit

/-- Behind Pop, where there is one. -/
def PopOk (w : World) (p : Nat) (r : Nat → Nat) (Q : QS) (x : It) (L : List It) (e : Ending) (w' : World) : Prop :=
  ∃ v, e = .returned (.tuple #[.agg #[.int .u64 x.no, .int .i64 x.size, v], .bool true]) ∧ (∃ rv f n xs, IsQ w' p r (popped Q L) rv f n xs) ∧ Only (fun k => r k ≠ 0) w w' ∧ Own8 w' w.heap.size v x.data

set_option maxRecDepth 100000 in
set_option maxHeartbeats 1000000 in
theorem pop_is {w : World} {p : Nat} {r : Nat → Nat} {Q : QS} {rv : Value} {f n : Nat} {xs : List Value} (hQ : IsQ w p r Q rv f n xs) (x : It) (L : List It) (hL : Q.L = x :: L) :
    Calls Try.prog 54 #[.pointer (some ⟨p, 0, none⟩)] w (PopOk w p r Q x L) := by
  have hlen : Q.L.length = L.length + 1 := by rw [hL]; rfl
  have hsum : sumQ Q.L = x.size + sumQ L := by rw [hL]; simp [sumQ]
  have hroom := hQ.room
  have hcap := hQ.cap
  have hff : f < n := by have := hQ.from_; omega
  have hsb := hQ.sum
  have hbd := hQ.bound
  obtain ⟨g, cap, erv, hg, hnc, hcell⟩ := row_cell hQ.ring (by omega)
  subst erv
  have hxl : xs.length = n * 3 := hQ.ring.1
  have hA : Below w.heap.size w (w.alloc (.cells #[.int .u64 0, .int .i64 0, .slice none 0 0] 34)) := (Below.refl _ _).alloc (Nat.le_refl _) _
  have h2 := alloc_block_new w (.cells #[.int .u64 0, .int .i64 0, .slice none 0 0] 34)
  have HH := Lib.hid (head_is (hQ.below hA) x L hL)
  have HQ := Lib.hid hQ
  have HL := Lib.hid hL
  have HA := Lib.hid hA
  have H2 := Lib.hid h2
  have HLEN := Lib.hid hlen
  have HSUM := Lib.hid hsum
  have HXL := Lib.hid hxl
  have HCE := Lib.hid hcell
  clear hQ hL hA h2 hlen hsum hxl hcell hroom
  go_enter Try.func54, Try.ntmps54
  go_wp2_with fail
  refine HH.out.mono ?_
  rintro e w1 ⟨v, rfl, ho, hB1⟩
  obtain ⟨av, cv, ev⟩ := own_shape ho
  subst ev
  have HO := Lib.hid ho
  have HB1 := Lib.hid hB1
  clear ho hB1 HH
  go_wp2_with fail
  have hB2 : Below w1.heap.size w1 (w1.alloc (.cells #[.int .u64 x.no, .int .i64 x.size, .slice av x.data.length cv] 34)) := (Below.refl _ _).alloc (Nat.le_refl _) _
  have h4 := alloc_block_new w1 (.cells #[.int .u64 x.no, .int .i64 x.size, .slice av x.data.length cv] 34)
  have hBw : Below w.heap.size w (w1.alloc (.cells #[.int .u64 x.no, .int .i64 x.size, .slice av x.data.length cv] 34)) := (HA.out.trans (HB1.out.mono HA.out.size)).trans (hB2.mono (Nat.le_trans HA.out.size HB1.out.size))
  have hQ2 := HQ.out.below hBw
  have h22 := (hB2.block w.heap.size (lt_of_obj ((HB1.out.block w.heap.size (by simp)).trans H2.out))).trans ((HB1.out.block w.heap.size (by simp)).trans H2.out)
  have hO2 := own_below HO.out hB2
  have hgg : w.heap.size < w1.heap.size := lt_of_obj ((HB1.out.block w.heap.size (by simp)).trans H2.out)
  generalize w1.alloc (.cells #[.int .u64 x.no, .int .i64 x.size, .slice av x.data.length cv] 34) = w2 at *
  obtain ⟨g2, eg2⟩ : ∃ t, w.heap.size = t := ⟨_, rfl⟩
  obtain ⟨g4, eg4⟩ : ∃ t, w1.heap.size = t := ⟨_, rfl⟩
  rw [eg2, eg4] at hgg
  rw [eg4] at h4
  rw [eg2] at h22
  rw [show (some (⟨w1.heap.size, 0, none⟩ : Addr)) = some ⟨g4, 0, none⟩ by rw [eg4]]
  rw [show (some (⟨w.heap.size, 0, none⟩ : Addr)) = some ⟨g2, 0, none⟩ by rw [eg2]]
  have hpl := HQ.out.lt p (by rw [HQ.out.rp]; decide)
  have hgl := HQ.out.lt g (by rw [HQ.out.rr g rfl]; decide)
  have hgp : ¬ g = p := fun e => by have h1 := HQ.out.rp; rw [← e, HQ.out.rr g rfl] at h1; exact absurd h1 (by decide)
  have hgp' : ¬ p = g := fun e => hgp e.symm
  have n1 : ¬ p = g2 := by omega
  have n2 : ¬ p = g4 := by omega
  have n3 : ¬ g = g2 := by omega
  have n4 : ¬ g = g4 := by omega
  have n5 : ¬ g2 = g4 := by omega
  have n1' : ¬ g2 = p := by omega
  have n2' : ¬ g4 = p := by omega
  have n3' : ¬ g2 = g := by omega
  have n4' : ¬ g4 = g := by omega
  have n5' : ¬ g4 = g2 := by omega
  have k0 := hQ2.c0
  have k1 := hQ2.c1
  have k2 := hQ2.c2
  have k3 := hQ2.c3
  have e1 := hQ2.fr 1
  have e2 := hQ2.fr 2
  have e3 := hQ2.fr 3
  have b1 : w2.cell? ⟨g4, 1, none⟩ = _ := cell_of_block h4 1
  have b0 : w2.cell? ⟨g4, 0, none⟩ = _ := cell_of_block h4 0
  have b2 : w2.cell? ⟨g4, 2, none⟩ = _ := cell_of_block h4 2
  have d0 : w2.cell? ⟨g2, 0, none⟩ = _ := cell_of_block h22 0
  have d1 : w2.cell? ⟨g2, 1, none⟩ = _ := cell_of_block h22 1
  have d2 : w2.cell? ⟨g2, 2, none⟩ = _ := cell_of_block h22 2
  have y0 := free_of_block h22 0
  have y1 := free_of_block h22 1
  have y2 := free_of_block h22 2
  dsimp at b0 b1 b2 d0 d1 d2
  obtain ⟨g', cap', ev', _, _, hcell2⟩ := row_cell hQ2.ring (by omega)
  injection ev' with ev1 ev2 ev3
  injection ev1 with ev1
  injection ev1 with ev1
  subst ev1
  clear ev2 ev3
  obtain ⟨u0, hu0⟩ : ∃ u, xs[f * 3]? = some u := ⟨_, List.getElem?_eq_getElem (by rw [HXL.out]; omega)⟩
  obtain ⟨u1, hu1⟩ : ∃ u, xs[f * 3 + 1]? = some u := ⟨_, List.getElem?_eq_getElem (by rw [HXL.out]; omega)⟩
  obtain ⟨u2, hu2⟩ : ∃ u, xs[f * 3 + 2]? = some u := ⟨_, List.getElem?_eq_getElem (by rw [HXL.out]; omega)⟩
  have q0 := (hcell2 (f * 3) (by omega)).trans hu0
  have q1 := (hcell2 (f * 3 + 1) (by omega)).trans hu1
  have q2 := (hcell2 (f * 3 + 2) (by omega)).trans hu2
  obtain ⟨cc, hcc⟩ := row_type hQ2.ring g rfl
  have z0 : w2.frozen? ⟨g, f * 3, none⟩ = false := free_of_block hcc _
  have z1 : w2.frozen? ⟨g, f * 3 + 1, none⟩ = false := free_of_block hcc _
  have z2 : w2.frozen? ⟨g, f * 3 + 2, none⟩ = false := free_of_block hcc _
  have HQ2 := Lib.hid hQ2
  have H4 := Lib.hid h4
  have H22 := Lib.hid h22
  have HO2 := Lib.hid hO2
  have HBW := Lib.hid hBw
  have HE2 := Lib.hid eg2
  have HE4 := Lib.hid eg4
  clear hQ2 h4 h22 hO2 hBw hB2 hcc hcell2 hu0 hu1 hu2 eg2 eg4 hg hnc HO HCE
  refine (place0 k0 k1 hff hcap).mono ?_
  rintro e w3 ⟨rfl, nd, rfl⟩
  have m1 : (0 : Int) ≤ ((f : Int) + 1) % (n : Int) := Int.emod_nonneg _ (by omega)
  have m2 : ((f : Int) + 1) % (n : Int) < (n : Int) := Int.emod_lt_of_pos _ (by omega)
  have m3 : (0 : Int) < (n : Int) := by omega
  have l1 : (1 : Int) ≤ (Q.L.length : Int) := by have := HLEN.out; omega
  have l2 : (Q.L.length : Int) ≤ 200000 := by have := HQ.out.room; omega
  have s1 : (x.size : Int) ≤ (sumQ Q.L : Int) := by have := HSUM.out; omega
  have s2 : (sumQ Q.L : Int) ≤ 9223372036854775807 := by omega
  go_wp2_with fail
  go_region
  go_wp2_with fail
  go_region
  go_wp2_with fail
  have hD : Below w2.heap.size w2 (w2.drewN nd) := below_drewN (Below.refl _ _) nd
  have hQ3 := HQ2.out.below hD
  have hBw3 := HBW.out.trans (hD.mono HBW.out.size)
  have h22 := (hD.block g2 (lt_of_obj H22.out)).trans H22.out
  have hv3 := own_below HO2.out hD
  clear k0 k1 k2 k3 e1 e2 e3 b0 b1 b2 d0 d1 d2 y0 y1 y2 q0 q1 q2 z0 z1 z2 m1 m2 m3 l1 l2 s1 s2
  generalize w2.drewN nd = w3 at *
  obtain ⟨hrow, hO4⟩ := set3_row hQ3.ring (o := f * 3) (by omega) (.int .u64 0) (.int .i64 0) (.slice none 0 0)
  have hb4 := hO4.keep hQ3.blk hgp'
  have h224 := hO4.keep h22 n3'
  have hv4 := own8_other hv3 (row_type hQ3.ring g rfl).choose_spec (fun c e => by injection e with _ e _; exact absurd e (by decide)) hO4
  generalize ((w3.setCell ⟨g, f * 3, none⟩ (.int .u64 0)).setCell ⟨g, f * 3 + 1, none⟩ (.int .i64 0)).setCell ⟨g, f * 3 + 2, none⟩ (.slice none 0 0) = w4 at *
  have hb5 := setCell_block (setCell_block (setCell_block hb4 1 (.int .i64 (((f : Int) + 1) % (n : Int)))) 2 (.int .i64 ((Q.L.length : Int) - 1))) 3 (.int .i64 ((sumQ Q.L : Int) - (x.size : Int)))
  have hO5 : Only (· = p) w4 (((w4.setCell ⟨p, 1, none⟩ (.int .i64 (((f : Int) + 1) % (n : Int)))).setCell ⟨p, 2, none⟩ (.int .i64 ((Q.L.length : Int) - 1))).setCell ⟨p, 3, none⟩ (.int .i64 ((sumQ Q.L : Int) - (x.size : Int)))) :=
    Only.setCell (p := ⟨p, 3, none⟩) (Only.setCell (p := ⟨p, 2, none⟩) (Only.setCell (p := ⟨p, 1, none⟩) (Only.refl (· = p) w4) (fun _ => rfl) _) (fun _ => rfl) _) (fun _ => rfl) _
  have h225 := hO5.keep h224 n1'
  have hv5 := own8_other hv4 hb4 (fun c e => by injection e with _ e _; exact absurd e (by decide)) hO5
  generalize ((w4.setCell ⟨p, 1, none⟩ (.int .i64 (((f : Int) + 1) % (n : Int)))).setCell ⟨p, 2, none⟩ (.int .i64 ((Q.L.length : Int) - 1))).setCell ⟨p, 3, none⟩ (.int .i64 ((sumQ Q.L : Int) - (x.size : Int))) = w5 at *
  have hle := HLEN.out
  have hsu := HSUM.out
  rw [show ((f : Int) + 1) % (n : Int) = (((f + 1) % n : Nat) : Int) from (Int.natCast_emod (f + 1) n).symm, show (Q.L.length : Int) - 1 = (L.length : Int) by omega, show (sumQ Q.L : Int) - (x.size : Int) = (sumQ L : Int) by omega] at hb5
  obtain ⟨hF, hOF⟩ := pop_end (w0 := w) hQ3 HL.out hBw3 HQ.out.lt hrow (fun j hj => set3_other hj) hO4 hO5 hb5
  obtain ⟨hb6, hO6⟩ := set3_blk h225 (.int .u64 x.no) (.int .i64 x.size) (.slice av x.data.length cv)
  have hE2 := HE2.out
  have hE4 := HE4.out
  have hrz : r g2 = 0 := by
    rcases Nat.eq_zero_or_pos (r g2) with e | e
    · exact e
    · have := HQ.out.lt g2 (by omega); omega
  have hF6 := hF.keep hO6 (fun k hk e => hk (by rw [e]; exact hrz))
  have hOF6 : Only (fun k => r k ≠ 0) w _ := ⟨hO6.os.trans hOF.os, hO6.tape.trans hOF.tape, hO6.output.trans hOF.output, Nat.le_trans hOF.size hO6.size, fun k hk hrk => (hO6.block k (Nat.lt_of_lt_of_le hk hOF.size) (by omega)).trans (hOF.block k hk hrk)⟩
  have hv6 := own8_other hv5 h225 (fun c e => by injection e with _ e _; exact absurd e (by decide)) hO6
  generalize ((w5.setCell ⟨g2, 0, none⟩ (.int .u64 x.no)).setCell ⟨g2, 1, none⟩ (.int .i64 x.size)).setCell ⟨g2, 2, none⟩ (.slice av x.data.length cv) = w6 at *
  have r0 : w6.drew.drew.cell? ⟨g2, 0, none⟩ = _ := cell_of_block (w := w6.drew.drew) hb6 0
  have r1 : w6.drew.drew.cell? ⟨g2, 1, none⟩ = _ := cell_of_block (w := w6.drew.drew) hb6 1
  have r2 : w6.drew.drew.cell? ⟨g2, 2, none⟩ = _ := cell_of_block (w := w6.drew.drew) hb6 2
  dsimp at r0 r1 r2
  have hfd := hF6.keep (Only.refl (fun _ => False) w6).drew.drew (fun _ _ h => h)
  have hvd := own_only hv6 (Only.refl (fun _ => False) w6).drew.drew (fun _ _ h => h)
  refine bodyPost_ret (v := .tuple #[.agg #[.int .u64 x.no, .int .i64 x.size, .slice av x.data.length cv], .bool true]) (by simp [results, Try.results54, go_sem, r0, r1, r2]) rfl ⟨_, rfl, ⟨_, _, _, _, hfd⟩, hOF6.drew.drew, own_lower hvd ?_⟩
  simp
end Go.Proofs.Ythipfcmjpgbemaa

/- The chapter's examples of a queue, walked. -/
namespace Go.Proofs.Ythipfcmjpgbemaa
open Go.RowKit

/-- A queue in memory. -/
def Que (w : World) (p : Nat) (r : Nat → Nat) (Q : QS) : Prop := ∃ rv f n xs, IsQ w p r Q rv f n xs

theorem Que.keep {w w' : World} {p : Nat} {r : Nat → Nat} {Q : QS} (h : Que w p r Q) {S : Nat → Prop} (hO : Only S w w') (hS : ∀ k, r k ≠ 0 → ¬ S k) : Que w' p r Q :=
  let ⟨rv, f, n, xs, h⟩ := h
  ⟨rv, f, n, xs, h.keep hO hS⟩
theorem Que.below {w w' : World} {p : Nat} {r : Nat → Nat} {Q : QS} (h : Que w p r Q) (hB : Below w.heap.size w w') : Que w' p r Q := h.keep (Below.only hB (fun _ => False)) (fun _ _ h => h)
theorem Que.lt {w : World} {p : Nat} {r : Nat → Nat} {Q : QS} (h : Que w p r Q) : ∀ k, r k ≠ 0 → k < w.heap.size := let ⟨_, _, _, _, h⟩ := h; h.lt
theorem Que.zero {w : World} {p : Nat} {r : Nat → Nat} {Q : QS} (h : Que w p r Q) {k : Nat} (hk : w.heap.size ≤ k) : r k = 0 := by
  rcases Nat.eq_zero_or_pos (r k) with e | e
  · exact e
  · have := h.lt k (by omega); omega

/-- A queue of the call's own. -/
structure MineQ (W w : World) (p : Nat) (r : Nat → Nat) (Q : QS) : Prop where
  q : Que w p r Q
  new : ∀ k, r k ≠ 0 → W.heap.size ≤ k
  bel : Below W.heap.size W w
theorem MineQ.below {W w w' : World} {p : Nat} {r : Nat → Nat} {Q : QS} (h : MineQ W w p r Q) (hB : Below w.heap.size w w') : MineQ W w' p r Q :=
  ⟨h.q.below hB, h.new, h.bel.trans (hB.mono h.bel.size)⟩
theorem MineQ.alloc {W w : World} {p : Nat} {r : Nat → Nat} {Q : QS} (h : MineQ W w p r Q) (o : Obj) : MineQ W (w.alloc o) p r Q := h.below ((Below.refl _ _).alloc (Nat.le_refl _) _)
theorem MineQ.step {W w w' : World} {p : Nat} {r r' : Nat → Nat} {Q Q' : QS} (h : MineQ W w p r Q) (hQ : Que w' p r' Q') (hO : Only (fun k => r k ≠ 0) w w') (hr : ∀ k, r' k ≠ 0 → r k ≠ 0 ∨ w.heap.size ≤ k) : MineQ W w' p r' Q' :=
  ⟨hQ, fun k hk => (hr k hk).elim (h.new k) (fun e => Nat.le_trans h.bel.size e), h.bel.trans (hO.below h.bel.size (fun k hk e => by have := h.new k e; omega))⟩
theorem MineQ.zero {W w : World} {p : Nat} {r : Nat → Nat} {Q : QS} (h : MineQ W w p r Q) {k : Nat} (hk : k < W.heap.size) : r k = 0 := by
  rcases Nat.eq_zero_or_pos (r k) with e | e
  · exact e
  · have := h.new k (by omega); omega

/-- A queue behind a push. -/
def pushR (Q : QS) (x : It) : QS := if roomB Q x.size = true then pushed Q x else { Q with drops := Q.drops + 1 }

theorem push_q (c no sz : Int) (x : It) (y : Value) {w : World} {p : Nat} {r : Nat → Nat} {Q : QS} (h : Que w p r Q) (hy : Holds8 w y x.data) (hyr : 0 < x.data.length → ∀ k, y.ownBlock = some k → r k = 0) (hd : x.data.length ≤ 1000000) (hdr : Q.drops ≤ 1000000)
    (hno : no = x.no) (hsz : sz = x.size) (hc : c = if roomB Q x.size = true then 0 else 110) :
    Calls Try.prog 29 #[.pointer (some ⟨p, 0, none⟩), .agg #[.int .u64 no, .int .i64 sz, y]] w fun e w' => e = .returned (.int .i64 c) ∧ ∃ r', Que w' p r' (pushR Q x) ∧ Only (fun k => r k ≠ 0) w w' ∧ ∀ k, r' k ≠ 0 → r k ≠ 0 ∨ w.heap.size ≤ k := by
  obtain ⟨rv, f, n, xs, hQ⟩ := h
  subst hno hsz hc
  unfold pushR
  cases hr : roomB Q x.size with
  | true =>
    refine (push_ok x y hQ hy hyr hr hd).mono ?_
    rintro e w' ⟨rfl, r', rv', f', n', xs', h1, h2, h3⟩
    exact ⟨rfl, r', ⟨_, _, _, _, h1⟩, h2, h3⟩
  | false =>
    obtain ⟨ya, yc, rfl, _⟩ := hy
    refine (push_full x.no x.size ya x.data.length yc (by omega) hQ hr hdr).mono ?_
    rintro e w' ⟨rfl, h1, h2⟩
    exact ⟨rfl, r, ⟨_, _, _, _, h1⟩, h2, fun _ h => .inl h⟩

theorem holds_nil (w : World) : Holds8 w (.slice none 0 0) [] := ⟨none, 0, rfl, Nat.le_refl _, fun _ => rfl, fun h => absurd h (by simp), fun h => absurd h (by simp)⟩

theorem new_q (i s : Nat) (hi : i ≤ 65536) (hs : s ≤ 9223372036854775807) (w : World) :
    Calls Try.prog 26 #[.int .i64 i, .int .i64 s] w fun e w' => ∃ p r, e = .returned (.tuple #[.pointer (some ⟨p, 0, none⟩), .int .i64 0]) ∧ MineQ w w' p r (empty i s) :=
  (new_is i s hi hs w).mono fun _ _ ⟨p, r, he, hQ, hB, hr⟩ => ⟨p, r, he, ⟨_, _, _, _, hQ⟩, hr, hB⟩

theorem len_q {w : World} {p : Nat} {r : Nat → Nat} {Q : QS} (h : Que w p r Q) : Calls Try.prog 63 #[.pointer (some ⟨p, 0, none⟩)] w fun e w' => e = .returned (.int .i64 Q.L.length) ∧ w' = w := let ⟨_, _, _, _, h⟩ := h; len_is h
/-- Behind Pop. -/
def PopQ (w : World) (p : Nat) (r : Nat → Nat) (Q : QS) (x : It) (L : List It) (e : Ending) (w' : World) : Prop :=
  ∃ v, e = .returned (.tuple #[.agg #[.int .u64 x.no, .int .i64 x.size, v], .bool true]) ∧ Que w' p r (popped Q L) ∧ Only (fun k => r k ≠ 0) w w' ∧ Own8 w' w.heap.size v x.data
theorem pop_q (x : It) (L : List It) {w : World} {p : Nat} {r : Nat → Nat} {Q : QS} (h : Que w p r Q) (hL : Q.L = x :: L) :
    Calls Try.prog 54 #[.pointer (some ⟨p, 0, none⟩)] w (PopQ w p r Q x L) := let ⟨_, _, _, _, h⟩ := h; pop_is h x L hL

end Go.Proofs.Ythipfcmjpgbemaa

/- The queue's head, all items, Push: each one contract for all cases. -/
namespace Go.Proofs.Ythipfcmjpgbemaa
open Go.RowKit

/-- All items, in new memory. -/
def AllOk (w : World) (L : List It) (e : Ending) (w' : World) : Prop := ∃ v ys F, e = .returned v ∧ NewI w.heap.size w' F v ys L ∧ Below w.heap.size w w'
theorem all_q {w : World} {p : Nat} {r : Nat → Nat} {Q : QS} (h : Que w p r Q) : Calls Try.prog 33 #[.pointer (some ⟨p, 0, none⟩)] w (AllOk w Q.L) := let ⟨_, _, _, _, h⟩ := h; all_items h
theorem head_q_nil {w : World} {p : Nat} {r : Nat → Nat} {Q : QS} (h : Que w p r Q) (h0 : Q.L = []) :
    Calls Try.prog 52 #[.pointer (some ⟨p, 0, none⟩)] w fun e w' => e = .returned (.tuple #[.agg #[.int .u64 0, .int .i64 0, .slice none 0 0], .bool false]) ∧ Below w.heap.size w w' := let ⟨_, _, _, _, h⟩ := h; head_empty h h0
theorem head_q {w : World} {p : Nat} {r : Nat → Nat} {Q : QS} (h : Que w p r Q) {x : It} {L : List It} (hL : Q.L = x :: L) :
    Calls Try.prog 52 #[.pointer (some ⟨p, 0, none⟩)] w (HeadOk w x) := let ⟨_, _, _, _, h⟩ := h; head_is h x L hL

/-- The first of some items, or none. -/
def hdIt : List It → It
  | [] => ⟨0, 0, []⟩
  | x :: _ => x
def hdB : List It → Bool
  | [] => false
  | _ :: _ => true
def HeadAny (w : World) (L : List It) (e : Ending) (w' : World) : Prop := ∃ a c, e = .returned (.tuple #[.agg #[.int .u64 (hdIt L).no, .int .i64 (hdIt L).size, .slice a (hdIt L).data.length c], .bool (hdB L)]) ∧ Holds8 w' (.slice a (hdIt L).data.length c) (hdIt L).data ∧ Below w.heap.size w w'
theorem head_any {w : World} {p : Nat} {r : Nat → Nat} {Q : QS} (h : Que w p r Q) : Calls Try.prog 52 #[.pointer (some ⟨p, 0, none⟩)] w (HeadAny w Q.L) := by
  cases hL : Q.L with
  | nil =>
    refine (head_q_nil h hL).mono ?_
    rintro e w' ⟨rfl, hB⟩
    exact ⟨none, 0, rfl, holds_nil _, hB⟩
  | cons x L =>
    refine (head_q h hL).mono ?_
    rintro e w' ⟨v, rfl, ho, hB⟩
    obtain ⟨a, c, rfl⟩ := own_shape ho
    exact ⟨a, c, rfl, ho.holds, hB⟩
theorem Que.few {w : World} {p : Nat} {r : Nat → Nat} {Q : QS} (h : Que w p r Q) : Q.L.length ≤ Q.items := let ⟨_, _, _, _, h⟩ := h; h.few
theorem Que.its {w : World} {p : Nat} {r : Nat → Nat} {Q : QS} (h : Que w p r Q) : Q.items ≤ 65536 := let ⟨_, _, _, _, h⟩ := h; h.items
theorem Que.bnd {w : World} {p : Nat} {r : Nat → Nat} {Q : QS} (h : Que w p r Q) : Q.bound ≤ 9223372036854775807 := let ⟨_, _, _, _, h⟩ := h; h.bound
theorem Que.len {w : World} {p : Nat} {r : Nat → Nat} {Q : QS} (h : Que w p r Q) : Q.L.length ≤ 65536 := Nat.le_trans h.few h.its

/-- A queue behind a push of whatever, and the code. -/
def pushA (Q : QS) (no : Nat) (sz : Int) (ds : List Nat) : QS := if sz < 0 then Q else pushR Q ⟨no, sz.toNat, ds⟩
def pushC (Q : QS) (sz : Int) : Int := if sz < 0 then 2 else if roomB Q sz = true then 0 else 110
/-- A queue behind Pop. -/
def popA (Q : QS) : QS := { Q with L := Q.L.tail }

theorem pushR_bounds (Q : QS) (x : It) : (pushR Q x).items = Q.items ∧ (pushR Q x).bound = Q.bound ∧ (pushR Q x).drops ≤ Q.drops + 1 := by
  unfold pushR
  split
  · exact ⟨rfl, rfl, Nat.le_succ _⟩
  · exact ⟨rfl, rfl, Nat.le_refl _⟩
theorem pushA_bounds (Q : QS) (no : Nat) (sz : Int) (ds : List Nat) : (pushA Q no sz ds).items = Q.items ∧ (pushA Q no sz ds).bound = Q.bound ∧ (pushA Q no sz ds).drops ≤ Q.drops + 1 := by
  unfold pushA
  split
  · exact ⟨rfl, rfl, Nat.le_succ _⟩
  · exact pushR_bounds _ _

/-- Behind Push. -/
def PushAny (w : World) (p : Nat) (r : Nat → Nat) (Q' : QS) (c : Int) (e : Ending) (w' : World) : Prop :=
  e = .returned (.int .i64 c) ∧ ∃ r', Que w' p r' Q' ∧ Only (fun k => r k ≠ 0) w w' ∧ ∀ k, r' k ≠ 0 → r k ≠ 0 ∨ w.heap.size ≤ k

theorem push_any (no : Nat) (sz : Int) (y : Value) (ds : List Nat) {w : World} {p : Nat} {r : Nat → Nat} {Q : QS} (h : Que w p r Q) (hy : Holds8 w y ds) (hyr : 0 < ds.length → ∀ k, y.ownBlock = some k → r k = 0) (hd : ds.length ≤ 1000000) (hdr : Q.drops ≤ 1000000) :
    Calls Try.prog 29 #[.pointer (some ⟨p, 0, none⟩), .agg #[.int .u64 no, .int .i64 sz, y]] w (PushAny w p r (pushA Q no sz ds) (pushC Q sz)) := by
  unfold pushA pushC
  by_cases hs : sz < 0
  · rw [if_pos hs, if_pos hs]
    obtain ⟨ya, yc, rfl, _⟩ := hy
    refine (push_neg p no sz ya ds.length yc hs w).mono ?_
    rintro e w' ⟨rfl, hB⟩
    exact ⟨rfl, r, h.below hB, Below.only hB _, fun _ h => .inl h⟩
  · rw [if_neg hs, if_neg hs]
    obtain ⟨n, rfl⟩ : ∃ n : Nat, sz = n := ⟨sz.toNat, by omega⟩
    rw [Int.toNat_natCast]
    refine (push_q (if roomB Q n = true then 0 else 110) no n ⟨no, n, ds⟩ y h hy hyr hd hdr rfl rfl rfl).mono ?_
    rintro e w' ⟨rfl, r', h1, h2, h3⟩
    exact ⟨rfl, r', h1, h2, h3⟩

end Go.Proofs.Ythipfcmjpgbemaa

/- Clear, walked. -/
namespace Go.Proofs.Ythipfcmjpgbemaa
open Go.RowKit

/-- The queue without its items. -/
def cleared (Q : QS) : QS := { Q with L := [] }

theorem setCells_blk {b : Nat} {e : TypeId} : ∀ (vs : List Value) (o : Nat) {w : World} {cs : Array Value}, w.heap[b]? = some (.cells cs e (0, 0)) →
    (∃ cs' : Array Value, (w.setCells b o vs).heap[b]? = some (.cells cs' e (0, 0)) ∧ cs'.size = cs.size) ∧ Only (· = b) w (w.setCells b o vs) ∧ (w.setCells b o vs).heap.size = w.heap.size
  | [], _, w, cs, h => ⟨⟨cs, h, rfl⟩, Only.refl _ _, rfl⟩
  | v :: r, o, w, cs, h => by
    have h1 := setCell_block h o v
    obtain ⟨⟨cs', h2, h3⟩, h4, h5⟩ := setCells_blk r (o + 1) h1
    exact ⟨⟨cs', h2, by rw [h3]; simp⟩, (Only.setCell (p := ⟨b, o, none⟩) (Only.refl (· = b) w) (fun _ => rfl) v).trans h4, by rw [World.setCells, h5]; simp [World.setCell]⟩

theorem run_clear3 {w : World} {g n c : Nat} {xs : List Value} (h : w.ownsRow 0 34 3 (.slice (some ⟨g, 0, none⟩) n c) n xs) (hn : 0 < n) :
    ∃ w' xs', (∀ ty, (Builtin.clear_ #[49] ty #[.slice (some ⟨g, 0, none⟩) n c]).run Try.prog w = .ok (.tuple #[]) w') ∧ w'.ownsRow 0 34 3 (.slice (some ⟨g, 0, none⟩) n c) n xs' ∧ Only (· = g) w w' ∧ w'.heap.size = w.heap.size := by
  obtain ⟨i0, hi, hz0, hz1, hz2⟩ := info_parts info_item
  rcases h.2 with ⟨_, h0⟩ | ⟨g2, cap2, cur, hv, hg, hh, hnc, hcm, hcs, hx⟩
  · omega
  · injection hv with e1 _ e3
    injection e1 with e1
    injection e1 with e1
    subst e1 e3
    obtain ⟨vs, hvs⟩ : ∃ vs, (Builtin.zeroCells (Value.agg #[.int .u64 0, .int .i64 0, .slice none 0 0]).cells n).toList = vs := ⟨_, rfl⟩
    have hlen : vs.length = n * 3 := by rw [← hvs]; simp [Builtin.zeroCells, Value.cells]
    have hone : ∀ v ∈ vs, v.oneCell' = true := by
      intro v hm
      rw [← hvs] at hm
      simp only [Builtin.zeroCells, Array.toList_map, List.mem_map] at hm
      obtain ⟨i, _, rfl⟩ := hm
      have h3 : i % 3 < 3 := Nat.mod_lt _ (by omega)
      show ((Value.agg #[.int .u64 0, .int .i64 0, .slice none 0 0]).cells[i % (Value.agg #[.int .u64 0, .int .i64 0, .slice none 0 0]).cells.size]!).oneCell' = true
      have h4 : (Value.agg #[.int .u64 0, .int .i64 0, .slice none 0 0]).cells = #[.int .u64 0, .int .i64 0, .slice none 0 0] := by simp [Value.cells]
      rw [h4]
      generalize hk : i % (#[Value.int .u64 0, .int .i64 0, .slice none 0 0] : Array Value).size = k
      have hk3 : k < 3 := by rw [← hk]; exact h3
      rcases k with _ | _ | _ | k
      · rfl
      · rfl
      · rfl
      · omega
    have hst := run_storeCells_cells (P := Try.prog) g 0 vs 0 w (fun j hj => by
        rw [show 0 + 0 + j = j by omega, cell_of_block hh j]
        simp only [Array.getElem?_eq_getElem (show j < cur.size by rw [hcs]; have := Nat.mul_le_mul_right 3 hnc; omega)]
        rfl) (fun j _ => free_of_block hh _) hone
    simp only [Nat.add_zero] at hst
    obtain ⟨⟨cs', hb', hs'⟩, hO, hsz⟩ := setCells_blk vs 0 hh
    refine ⟨w.setCells g 0 vs, cs'.toList.take (n * 3), fun ty => ?_, ⟨?_, .inr ⟨g, c, cs', rfl, hg, hb', hnc, hcm, by rw [hs', hcs], rfl⟩⟩, hO, hsz⟩
    · obtain ⟨m, rfl⟩ : ∃ m, n = m + 1 := ⟨n - 1, by omega⟩
      have hzv : ∀ w, (zeroValue 34).run Try.prog w = .ok (.agg #[.int .u64 0, .int .i64 0, .slice none 0 0]) w := fun w => by simp [zeroValue, typeInfo, hi, hz0]
      simp [Builtin.clear_, run_underlying (P := Try.prog) Try.underlying49, hzv, hvs, hst]
    · have := Nat.mul_le_mul_right 3 hnc
      simp [hs', hcs]
      omega

theorem clear_empty {w : World} {p : Nat} {r : Nat → Nat} {Q : QS} {rv : Value} {f n : Nat} {xs : List Value} (h : IsQ w p r Q rv f n xs) (h0 : Q.L = []) :
    Calls Try.prog 45 #[.pointer (some ⟨p, 0, none⟩)] w fun e w' => e = .returned (.int .i64 0) ∧ w' = w := by
  have hl := len_is h
  rw [h0] at hl
  have HL := Lib.hid hl
  clear hl h h0
  go_enter Try.func45, Try.ntmps45
  go_wp2_with fail
  refine HL.out.mono ?_
  rintro e w' ⟨rfl, rfl⟩
  go_wp2_with fail
  go_ret
  exact ⟨rfl, rfl⟩

theorem clear_end {w w1 w2 : World} {p : Nat} {r : Nat → Nat} {Q : QS} {g cap f n : Nat} {xs xs' : List Value} (hQ : IsQ w p r Q (.slice (some ⟨g, 0, none⟩) n cap) f n xs) (hn : 0 < n)
    (hrow : w1.ownsRow 0 34 3 (.slice (some ⟨g, 0, none⟩) n cap) n xs') (hO1 : Only (· = g) w w1) (hO2 : Only (· = p) w1 w2)
    (hb : w2.heap[p]? = some (.cells #[.slice (some ⟨g, 0, none⟩) n cap, .int .i64 (0 : Nat), .int .i64 (0 : Nat), .int .i64 (0 : Nat), .int .i64 Q.items, .int .i64 Q.bound, .int .u64 Q.drops] 120 (0, 0))) :
    IsQ w2 p r (cleared Q) (.slice (some ⟨g, 0, none⟩) n cap) 0 n xs' ∧ Only (fun k => r k ≠ 0) w w2 := by
  have hrg : r g = 2 := hQ.rr g rfl
  have hO : Only (fun k => r k ≠ 0) w w2 := (hO1.mono (fun k _ e => by subst e; rw [hrg]; decide)).trans (hO2.mono (fun k _ e => by subst e; rw [hQ.rp]; decide))
  refine ⟨⟨hb, own_only hrow hO2 (fun k hk e => ?_), fun i x hx => by simp [cleared] at hx, .inl hn, Nat.zero_le _, hQ.cap, Nat.zero_le _, hQ.items, Nat.zero_le _, hQ.bound, fun x hx => by simp [cleared] at hx, hQ.rp, hQ.rr, fun k hk => Nat.lt_of_lt_of_le (hQ.lt k hk) hO.size⟩, hO⟩
  have h1 : g = k := by injection hk
  have h2 := hQ.rp
  rw [e] at h1
  rw [h1] at hrg
  omega

set_option maxRecDepth 100000 in
theorem clear_some {w : World} {p : Nat} {r : Nat → Nat} {Q : QS} {rv : Value} {f n : Nat} {xs : List Value} (hQ : IsQ w p r Q rv f n xs) (h0 : 0 < Q.L.length) :
    Calls Try.prog 45 #[.pointer (some ⟨p, 0, none⟩)] w fun e w' => e = .returned (.int .i64 Q.L.length) ∧ Que w' p r (cleared Q) ∧ Only (fun k => r k ≠ 0) w w' := by
  have hn : 0 < n := Nat.lt_of_lt_of_le h0 hQ.room
  obtain ⟨g, cap, rfl, _, hg⟩ := own_slice hQ.ring hn
  obtain ⟨w1, xs', hrun, hrow, hO1, hsz⟩ := run_clear3 hQ.ring hn
  have hne : ¬ p = g := fun e => by have h1 := hQ.rr g rfl; have h2 := hQ.rp; rw [e] at h2; omega
  have hb1 := hO1.keep hQ.blk hne
  have hl := len_is hQ
  have c0 := hQ.c0
  have f1 := free_of_block hb1 1
  have f2 := free_of_block hb1 2
  have f3 := free_of_block hb1 3
  have c1 := cell_of_block hb1 1
  have c2 := cell_of_block hb1 2
  have c3 := cell_of_block hb1 3
  dsimp at c1 c2 c3
  have hpos : (0 : Int) < (Q.L.length : Int) := by omega
  have HQ := Lib.hid hQ
  have HL := Lib.hid hl
  have HR := Lib.hid hrow
  have HO := Lib.hid hO1
  have HB := Lib.hid hb1
  have HN := Lib.hid hn
  clear hQ hl hrow hO1 hb1 hn hne hg h0 hsz
  go_enter Try.func45, Try.ntmps45
  go_wp2_with fail
  refine HL.out.mono ?_
  rintro e w' ⟨rfl, rfl⟩
  go_wp2_with fail
  go_ret
  have hb2 := setCell_block (setCell_block (setCell_block HB.out 1 (.int .i64 0)) 2 (.int .i64 0)) 3 (.int .i64 0)
  have hO2 : Only (· = p) w1 (((w1.setCell ⟨p, 1, none⟩ (.int .i64 0)).setCell ⟨p, 2, none⟩ (.int .i64 0)).setCell ⟨p, 3, none⟩ (.int .i64 0)) :=
    Only.setCell (p := ⟨p, 3, none⟩) (Only.setCell (p := ⟨p, 2, none⟩) (Only.setCell (p := ⟨p, 1, none⟩) (Only.refl (· = p) w1) (fun _ => rfl) _) (fun _ => rfl) _) (fun _ => rfl) _
  obtain ⟨h1, h2⟩ := clear_end HQ.out HN.out HR.out HO.out hO2 hb2
  exact ⟨rfl, ⟨_, _, _, _, h1⟩, h2⟩

/-- Clear, of any queue. -/
theorem clear_q {w : World} {p : Nat} {r : Nat → Nat} {Q : QS} (h : Que w p r Q) :
    Calls Try.prog 45 #[.pointer (some ⟨p, 0, none⟩)] w fun e w' => e = .returned (.int .i64 Q.L.length) ∧ Que w' p r (cleared Q) ∧ Only (fun k => r k ≠ 0) w w' := by
  obtain ⟨rv, f, n, xs, hQ⟩ := h
  rcases Nat.eq_zero_or_pos Q.L.length with h0 | h0
  · have he : Q.L = [] := List.eq_nil_of_length_eq_zero h0
    refine (clear_empty hQ he).mono ?_
    rintro e w' ⟨rfl, rfl⟩
    have hc : cleared Q = Q := by obtain ⟨L, a, b, c⟩ := Q; simp [cleared] at he ⊢; exact he
    rw [hc, h0]
    exact ⟨rfl, ⟨_, _, _, _, hQ⟩, Only.refl _ _⟩
  · exact clear_some hQ h0
end Go.Proofs.Ythipfcmjpgbemaa

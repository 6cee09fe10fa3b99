/- The document's Offer of an item that may be: walked. -/
import Derived.Test.YthipfcmjpgbemaaGn
namespace Go.Proofs.Ythipfcmjpgbemaa
open Go.RowKit

theorem new_in {w w' : World} {cs : Array Value} {T : TypeId} (h : Below (w.alloc (.cells cs T)).drew.heap.size (w.alloc (.cells cs T)).drew w') : w'.heap[w.heap.size]? = some (.cells cs T (0, 0)) :=
  (h.block w.heap.size (lt_of_obj (w := w.alloc (.cells cs T)) (alloc_block_new w _))).trans (alloc_block_new w _)

theorem rOffer_end {w w2 w4 w5 w6 : World} {B p c : Nat} {bv qv sv y y' : Value} {qs : List Value} {S : Sh} {L L' : Ln} {rb rq rs : List (List Value)} (hA : Below w.heap.size w w2) (h7 : IsR w4 B p bv qv sv qs S) (hL : S.ls[c]? = some L) (hy : qs[c]? = some y)
    (hR5 : RL w5 B y' L'.Q.L) (hP5 : RP w5 B p S.tick bv qv sv rb rq rs) (hOw : Only (RD p bv qv sv) w2 w5) (hO45 : Only (RD p bv qv sv) w4 w5) (hO6 : Only (fun k => sv.ownBlock = some k) w5 w6) (hj : ∀ j, y'.ownBlock = some j → y.ownBlock = some j ∨ w2.heap.size ≤ j)
    (hP : RP w6 B p S.tick bv qv sv (S.ls.map bRow) ((List.zipWith qRow qs S.ls).set c (qRow y' L')) ((S.ls.map sRow).set c (sRow L'))) (hb : bRow L' = bRow L) : ∃ qs', IsR w6 B p bv qv sv qs' ⟨S.tick, S.ls.set c L'⟩ ∧ RChg w w6 p bv qv sv qs qs' := by
  have hO6' : Only (RD p bv qv sv) w5 w6 := hO6.mono fun k _ e => .inr (.inr (.inr e))
  exact ⟨qs.set c y', isR_set h7 hL hP (by rw [hb, set_self (by rw [List.getElem?_map, hL]; rfl)]) rfl rfl (hR5.keep hO6' (fun k hk e => hR5.ne hP5 hk e)) (hO45.trans hO6'), (RChg.below hA).trans (rchg_set hy (hOw.trans hO6') hj)⟩

set_option maxRecDepth 100000 in
set_option maxHeartbeats 1000000 in
theorem rOffer_ok {w : World} {B p n c : Nat} {bv qv sv : Value} {qs : List Value} {S : Sh} {L : Ln} (h : IsR w B p bv qv sv qs S) (hS : S.Ok n) (hQ : ∀ L ∈ S.ls, QOk L.Q) (hBw : B ≤ w.heap.size) (hL : S.ls[c]? = some L) (no : Nat) (sz : Int) (ds : List Nat) (h0 : 0 ≤ sz) (h1 : sz ≤ 2048) :
    Calls Try.prog 40 #[ptr p, .int .i64 c, .agg #[.int .u64 no, .int .i64 sz, .string (str8 ds)]] w fun e w' => e = .returned (.int .i64 (pushC L.Q sz)) ∧ ∃ qs', IsR w' B p bv qv sv qs' ⟨S.tick, S.ls.set c (offL L no sz ds)⟩ ∧ RChg w w' p bv qv sv qs qs' := by
  have hA : Below w.heap.size w (w.alloc (.cells #[.int .u64 no, .int .i64 sz, .string (str8 ds)] 42)) := (Below.refl _ _).alloc (Nat.le_refl _) _
  have gx := alloc_block_new w (.cells #[.int .u64 no, .int .i64 sz, .string (str8 ds)] 42)
  have hcl := (List.getElem?_eq_some_iff.1 hL).1
  have h2 := h.below hA
  have HT := Lib.hid (there_is h2 c)
  rw [decide_eq_true (show (0 : Int) ≤ (c : Int) ∧ (c : Int) < (S.ls.length : Int) by omega)] at HT
  have HA := Lib.hid hA
  have hLm := List.mem_of_getElem? hL
  have hLk := hS.ln L hLm
  have hfew := hS.few
  obtain ⟨y, hy, hrl⟩ := h2.q hL
  have hpu := fun (w' : World) (hB : Below (w.alloc (.cells #[.int .u64 no, .int .i64 sz, .string (str8 ds)] 42)).heap.size (w.alloc (.cells #[.int .u64 no, .int .i64 sz, .string (str8 ds)] 42)) w') =>
    rpush_any no sz ds ((hQ L hLm).rq (hrl.below hB)) (show B ≤ w'.heap.size by have := hB.size; have := hA.size; omega) (by have := hLk.drops; omega)
  obtain ⟨gb, gq, gs, cb, cq, cs, rfl, rfl, rfl, hb, hq, hs, hbl, hql, hsl⟩ := h2.cells hL hy
  have c2 := h2.rp.c2
  have c3 := h2.rp.c3
  have hp := lt_of_obj h2.rp.blk
  obtain ⟨ya, yc, ey⟩ := hrl.shape
  subst ey
  have q0 := hq 0 (by decide)
  have q1 := hq 1 (by decide)
  have q2 := hq 2 (by decide)
  have q3 := hq 3 (by decide)
  have s0 := hs 0 (by decide)
  have s1 := hs 1 (by decide)
  simp only [Nat.add_zero] at q0 s0
  replace q0 : (w.alloc (.cells #[.int .u64 no, .int .i64 sz, .string (str8 ds)] 42)).cell? ⟨gq, c * 4, none⟩ = some (.slice ya L.Q.L.length yc) := q0
  replace q1 : (w.alloc (.cells #[.int .u64 no, .int .i64 sz, .string (str8 ds)] 42)).cell? ⟨gq, c * 4 + 1, none⟩ = some (.int .i64 L.Q.items) := q1
  replace q2 : (w.alloc (.cells #[.int .u64 no, .int .i64 sz, .string (str8 ds)] 42)).cell? ⟨gq, c * 4 + 2, none⟩ = some (.int .i64 L.Q.bound) := q2
  replace q3 : (w.alloc (.cells #[.int .u64 no, .int .i64 sz, .string (str8 ds)] 42)).cell? ⟨gq, c * 4 + 3, none⟩ = some (.int .u64 L.Q.drops) := q3
  have x0 : (w.alloc (.cells #[.int .u64 no, .int .i64 sz, .string (str8 ds)] 42)).cell? ⟨w.heap.size, 0, none⟩ = some (.int .u64 no) := cell_of_block gx 0
  have x1 : (w.alloc (.cells #[.int .u64 no, .int .i64 sz, .string (str8 ds)] 42)).cell? ⟨w.heap.size, 1, none⟩ = some (.int .i64 sz) := cell_of_block gx 1
  have x2 : (w.alloc (.cells #[.int .u64 no, .int .i64 sz, .string (str8 ds)] 42)).cell? ⟨w.heap.size, 2, none⟩ = some (.string (str8 ds)) := cell_of_block gx 2
  have hxl := lt_of_obj gx
  have hsz : w.heap.size ≤ (w.alloc (.cells #[.int .u64 no, .int .i64 sz, .string (str8 ds)] 42)).heap.size := hA.size
  have hy0 : ∀ j, (Value.slice ya L.Q.L.length yc).ownBlock = some j → j < (w.alloc (.cells #[.int .u64 no, .int .i64 sz, .string (str8 ds)] 42)).heap.size := fun j hj => (hrl.ge j hj).2
  have HPU := Lib.hid hpu
  have HH := Lib.hid (And.intro h2 (And.intro hL (And.intro hy (And.intro hb (And.intro hq hs)))))
  unfold RPushAny rq at HPU
  have HEQ : Hid ((offL L no sz ds).Q = pushA L.Q no sz ds) := Lib.hid rfl
  have hoff := hLk.off
  have hdrp := hLk.drp
  clear h h2 hS hQ hA gx hL hy hrl hb hq hs hLk hpu hLm hy0
  unfold ptr at *
  generalize hN : S.ls.length = N at *
  generalize hQ' : pushA L.Q no sz ds = Q' at *
  generalize hC' : pushC L.Q sz = c' at *
  go_enter Try.func40, Try.ntmps40
  have hd0 : decide (sz < 0) = false := decide_eq_false (by omega)
  have hd1 : decide (2048 < sz) = false := decide_eq_false (by omega)
  go_wp2_with fail
  generalize hbx : w.heap.size = bx at *
  generalize w.alloc (.cells #[.int .u64 no, .int .i64 sz, .string (str8 ds)] 42) = w1 at *
  refine HT.out.mono ?_
  rintro e w2 ⟨rfl, rfl⟩
  clear HT
  have hci : (c : Int) < (N : Int) := by omega
  have no1 : ¬ p = w2.heap.size := by omega
  have no2 : ¬ w2.heap.size = p := by omega
  have no3 : ¬ gq = w2.heap.size := by omega
  have no4 : ¬ w2.heap.size = gq := by omega
  have no5 : ¬ bx = w2.heap.size := by omega
  have no6 : ¬ w2.heap.size = bx := by omega
  go_upto_region 3 with (fail)
  go_cut [7, 8] (DRel w2 B (.slice ya L.Q.L.length yc) Q' c')
  case first =>
    go_region_held3 (fun w' => w'.cell? ⟨p, 2, none⟩ = some (.slice (some ⟨gq, 0, none⟩) N cq) ∧ (w'.cell? ⟨gq, c * 4, none⟩ = some (.slice ya L.Q.L.length yc) ∧ w'.cell? ⟨gq, c * 4 + 1, none⟩ = some (.int .i64 L.Q.items) ∧ w'.cell? ⟨gq, c * 4 + 2, none⟩ = some (.int .i64 L.Q.bound) ∧ w'.cell? ⟨gq, c * 4 + 3, none⟩ = some (.int .u64 L.Q.drops)) ∧ w'.cell? ⟨bx, 0, none⟩ = some (.int .u64 no) ∧ w'.cell? ⟨bx, 1, none⟩ = some (.int .i64 sz) ∧ w'.cell? ⟨bx, 2, none⟩ = some (.string (str8 ds))) (go_keep)
      (first
        | (go_at_call 59; refine Calls.mono (HPU.out _ ?_) ?_
           · first | exact (Below.refl _ _).drew | exact ((Below.refl _ _).alloc (Nat.le_refl _) _).drew | exact ((Below.refl _ _).drew).alloc (Nat.le_refl _) _
           rintro e w3 ⟨a3, k3, rfl, hR3, hB3, hj3⟩
           have hB : Below w2.heap.size w2 w3 := by
             first
               | exact (Below.refl w2.heap.size w2).drew.trans hB3
               | exact (((Below.refl w2.heap.size w2).drew).alloc (Nat.le_refl _) _).trans (hB3.mono (by simp))
               | exact (((Below.refl w2.heap.size w2).alloc (Nat.le_refl _) _).drew).trans (hB3.mono (by simp))
           have i0 := (hB.cell (p := ⟨p, 2, none⟩) hp).trans c2
           have i1 := (hB.cell (p := ⟨gq, c * 4, none⟩) hql).trans q0
           have i2 := (hB.cell (p := ⟨gq, c * 4 + 1, none⟩) hql).trans q1
           have i3 := (hB.cell (p := ⟨gq, c * 4 + 2, none⟩) hql).trans q2
           have i4 := (hB.cell (p := ⟨gq, c * 4 + 3, none⟩) hql).trans q3
           have i5 := (hB.cell (p := ⟨bx, 0, none⟩) hxl).trans x0
           have i6 := (hB.cell (p := ⟨bx, 1, none⟩) hxl).trans x1
           have i7 := (hB.cell (p := ⟨bx, 2, none⟩) hxl).trans x2
           first
             | (have HN := Lib.hid (new_in hB3)
                have t0 := cell_of_block HN.out 0; have t1 := cell_of_block HN.out 1; have t2 := cell_of_block HN.out 2; have t3 := cell_of_block HN.out 3
                have f0 := free_of_block HN.out 0; have f1 := free_of_block HN.out 1; have f2 := free_of_block HN.out 2; have f3 := free_of_block HN.out 3
                dsimp at t0 t1 t2 t3)
             | (have HN := Lib.hid (new_in' hB3)
                have t0 := cell_of_block HN.out 0; have t1 := cell_of_block HN.out 1; have t2 := cell_of_block HN.out 2; have t3 := cell_of_block HN.out 3
                have f0 := free_of_block HN.out 0; have f1 := free_of_block HN.out 1; have f2 := free_of_block HN.out 2; have f3 := free_of_block HN.out 3
                dsimp at t0 t1 t2 t3)
             | skip
           have hs3 := hB.size
           have ne1 : ¬ p = w3.heap.size := by omega
           have ne2 : ¬ w3.heap.size = p := by omega
           have ne3 : ¬ gq = w3.heap.size := by omega
           have ne4 : ¬ w3.heap.size = gq := by omega
           have ne5 : ¬ bx = w3.heap.size := by omega
           have ne6 : ¬ w3.heap.size = bx := by omega
           have H3 := Lib.hid (And.intro hR3 (And.intro hB3 (And.intro hj3 hB))); clear hR3 hB3 hj3 hB))
    all_goals
      clear i0 i1 i2 i3 i4 i5 i6 i7 ne1 ne2 ne3 ne4 ne5 ne6 no1 no2 no3 no4 no5 no6
      obtain ⟨hR3, hB3, hj3, hB⟩ := H3.out
      go_wp2_with fail
      go_meet
      case rel =>
        first
          | exact ⟨_, a3, k3, rfl, rfl, alloc_block_new w3 _, hR3.below ((Below.refl _ _).alloc (Nat.le_refl _) _), hB.trans (((Below.refl _ _).alloc (Nat.le_refl _) _).mono hB.size), hj3, hB.size⟩
          | (obtain ⟨hbn, hbO⟩ := set4_blk HN.out (.slice a3 Q'.L.length k3) (.int .i64 Q'.items) (.int .i64 Q'.bound) (.int .u64 Q'.drops)
             exact ⟨_, a3, k3, rfl, rfl, hbn, hR3.keep hbO (fun j hj e => by
               obtain ⟨c, hc⟩ := hR3.tyR hj
               subst e
               exact absurd (ty_apart hc HN.out) (by decide)), hB.trans (hbO.below hB.size (fun j hj e => by omega)), fun j hj => (hj3 j hj).imp id (fun h => by simp at h; omega), Nat.le_refl _⟩)
  case rest =>
    obtain ⟨g7, a3, k3, rfl, rfl, hz, hR7, hB7, hj7, hg7⟩ := hcut
    obtain ⟨h2, hL, hy, -, -, -⟩ := HH.out
    have hcl := (List.getElem?_eq_some_iff.1 hL).1
    have hD : Below wc.heap.size wc wc.drew := (Below.refl _ _).drew
    have h7 := (h2.below hB7).below hD
    have hz7 := (hD.block _ (lt_of_obj hz)).trans hz
    have hR8 := hR7.below hD
    have hB8 := hB7.trans (hD.mono hB7.size)
    have y2 := h7.rp.c2
    have z0 : wc.drew.cell? ⟨g7, 0, none⟩ = some (.slice a3 Q'.L.length k3) := cell_of_block hz7 0
    have z1 : wc.drew.cell? ⟨g7, 1, none⟩ = some (.int .i64 Q'.items) := cell_of_block hz7 1
    have z2 : wc.drew.cell? ⟨g7, 2, none⟩ = some (.int .i64 Q'.bound) := cell_of_block hz7 2
    have z3 : wc.drew.cell? ⟨g7, 3, none⟩ = some (.int .u64 Q'.drops) := cell_of_block hz7 3
    obtain ⟨gq', cq', cur, eqv, -, hblk, hnc, -, hcs, -, -⟩ := h7.rp.q.at (zip_at hy hL)
    have HEV := Lib.hid eqv
    injection eqv with e1 e2 e3
    injection e1 with e1
    injection e1 with e1
    subst e1
    have HX := Lib.hid (And.intro h7 (And.intro hR8 (And.intro hB8 (And.intro hj7 (And.intro hblk hz7)))))
    have HF : Hid (c * 4 + 4 ≤ cur.size) := by show _ ≤ _; rw [List.length_zipWith, h2.ql, Nat.min_self] at hnc; omega
    clear h2 hL hy h7 hz7 hR8 hB8 hz hR7 hB7 hj7 hg7 hD q0 q1 q2 q3 s0 s1 x0 x1 x2 c2 c3 hnc hcs e2 e3 HPU
    go_wp2_with fail
    refine region_tail 7 (by kernel_rfl) (by kernel_rfl) ?_
    simp only [List.take_succ_cons, List.take_zero, List.drop_succ_cons, List.drop_zero]
    generalize wc.drew = w4 at *
    repeat still_step
    refine wpStill_nil ?_
    refine wpList_store_at rfl 104 (.tmp 41) (.tmp 40) rfl gq (c * 4) (.agg #[.slice a3 Q'.L.length k3, .int .i64 Q'.items, .int .i64 Q'.bound, .int .u64 Q'.drops]) rfl rfl 104 cur HX.out.2.2.2.2.1 [.slice a3 Q'.L.length k3, .int .i64 Q'.items, .int .i64 Q'.bound, .int .u64 Q'.drops] rfl (by kernel_rfl) HF.out (by intro u hu; simp at hu; rcases hu with rfl | rfl | rfl | rfl <;> rfl) ?_
    intro w5 hS5
    obtain ⟨-, hL, hy, -, -, -⟩ := HH.out
    obtain ⟨h7, hR8, hB8, hj7, hblk, -⟩ := HX.out
    have hcl := (List.getElem?_eq_some_iff.1 hL).1
    have hr5 := h7.rp.q.stored (zip_at hy hL) HEV.out hblk (r' := [.slice a3 Q'.L.length k3, .int .i64 Q'.items, .int .i64 Q'.bound, .int .u64 Q'.drops]) rfl hS5
    have hO5 : Only (fun k => (Value.slice (some ⟨gq, 0, none⟩) N cq).ownBlock = some k) w4 w5 := hS5.only.mono (fun k _ e => by subst e; rfl)
    have hP5 := h7.rp.inQ hO5 hr5
    have hR5 := hR8.keep hO5 (fun k hk e => hR8.ne h7.rp hk (.inr (.inr (.inl e))))
    have hsr : (S.ls.map sRow)[c]? = some (sRow L) := by rw [List.getElem?_map, hL]; rfl
    have hfs := hP5.s.fr (by rw [List.length_map]; omega) rfl
    obtain ⟨gs', cs', us, eqs, -, -, -, -, -, -, hs5⟩ := hP5.s.at hsr
    injection eqs with e1 e2 e3
    injection e1 with e1
    injection e1 with e1
    subst e1
    have s0 := hs5 0 (by decide)
    have s1 := hs5 1 (by decide)
    simp only [Nat.add_zero] at s0
    replace s0 : w5.cell? ⟨gs, c * 4, none⟩ = some (.int .u64 L.off) := s0
    replace s1 : w5.cell? ⟨gs, c * 4 + 1, none⟩ = some (.int .u64 L.drp) := s1
    have f0 := hfs (c * 4)
    have f1 := hfs (c * 4 + 1)
    have k3' := hP5.c3
    have hwo : IntKind.u64.wrap ((L.off : Int) + 1) = ((L.off + 1 : Nat) : Int) := by rw [IntWalk.u64_in _ (by omega)]; rfl
    have hwd : IntKind.u64.wrap ((L.drp : Int) + 1) = ((L.drp + 1 : Nat) : Int) := by rw [IntWalk.u64_in _ (by omega)]; rfl
    have hPa := hP5.inS (w' := w5.setCell ⟨gs, c * 4 + 0, none⟩ (.int .u64 (L.off + 1 : Nat))) (Only.setCell (S := fun k => (Value.slice (some ⟨gs, 0, none⟩) N cs).ownBlock = some k) (p := ⟨gs, c * 4 + 0, none⟩) (Only.refl _ _) (fun _ => rfl) _) (hP5.s.cell hsr rfl (by decide))
    have hPb := hPa.inS (w' := (w5.setCell ⟨gs, c * 4 + 0, none⟩ (.int .u64 (L.off + 1 : Nat))).setCell ⟨gs, c * 4 + 1, none⟩ (.int .u64 (L.drp + 1 : Nat))) (Only.setCell (S := fun k => (Value.slice (some ⟨gs, 0, none⟩) N cs).ownBlock = some k) (p := ⟨gs, c * 4 + 1, none⟩) (Only.refl _ _) (fun _ => rfl) _) (hPa.s.cell (List.getElem?_set_self (by rw [List.length_map]; exact hcl)) rfl (by decide))
    rw [List.set_set] at hPb
    have hOw : Only (RD p (.slice (some ⟨gb, 0, none⟩) N cb) (.slice (some ⟨gq, 0, none⟩) N cq) (.slice (some ⟨gs, 0, none⟩) N cs)) w2 w5 := (Below.only hB8 _).trans (hO5.mono fun k _ e => .inr (.inr (.inl e)))
    have hgsR : RD p (.slice (some ⟨gb, 0, none⟩) N cb) (.slice (some ⟨gq, 0, none⟩) N cq) (.slice (some ⟨gs, 0, none⟩) N cs) gs := .inr (.inr (.inr rfl))
    have hO45 : Only (RD p (.slice (some ⟨gb, 0, none⟩) N cb) (.slice (some ⟨gq, 0, none⟩) N cq) (.slice (some ⟨gs, 0, none⟩) N cs)) w4 w5 := hO5.mono fun k _ e => .inr (.inr (.inl e))
    have hQq : bRow (offL L no sz ds) = bRow L := rfl
    have hqq : qRow (.slice a3 Q'.L.length k3) (offL L no sz ds) = [.slice a3 Q'.L.length k3, .int .i64 Q'.items, .int .i64 Q'.bound, .int .u64 Q'.drops] := by unfold qRow; rw [HEQ.out]
    rw [← hqq] at hPa hPb
    have ha : sRow L = sRow L := rfl
    have HEa : Hid (c' ≠ 110 → ∃ qs', IsR (w5.setCell ⟨gs, c * 4 + 0, none⟩ (.int .u64 (L.off + 1 : Nat))) B p (.slice (some ⟨gb, 0, none⟩) N cb) (.slice (some ⟨gq, 0, none⟩) N cq) (.slice (some ⟨gs, 0, none⟩) N cs) qs' ⟨S.tick, S.ls.set c (offL L no sz ds)⟩ ∧ RChg w (w5.setCell ⟨gs, c * 4 + 0, none⟩ (.int .u64 (L.off + 1 : Nat))) p (.slice (some ⟨gb, 0, none⟩) N cb) (.slice (some ⟨gq, 0, none⟩) N cq) (.slice (some ⟨gs, 0, none⟩) N cs) qs qs') := Lib.hid fun hc =>
      rOffer_end (y' := .slice a3 Q'.L.length k3) (by rw [hbx]; exact HA.out) h7 hL hy (by rw [HEQ.out]; exact hR5) hP5 hOw hO45 (Only.setCell (S := fun k => (Value.slice (some ⟨gs, 0, none⟩) N cs).ownBlock = some k) (p := ⟨gs, c * 4 + 0, none⟩) (Only.refl _ _) (fun _ => rfl) _) hj7
        (by
          have e : sRow (offL L no sz ds) = (sRow L).set 0 (.int .u64 (L.off + 1 : Nat)) := by unfold sRow offL; rw [if_neg (by rw [hC']; exact hc)]; rfl
          rw [e]
          exact hPa) hQq
    have HEb : Hid (c' = 110 → ∃ qs', IsR ((w5.setCell ⟨gs, c * 4 + 0, none⟩ (.int .u64 (L.off + 1 : Nat))).setCell ⟨gs, c * 4 + 1, none⟩ (.int .u64 (L.drp + 1 : Nat))) B p (.slice (some ⟨gb, 0, none⟩) N cb) (.slice (some ⟨gq, 0, none⟩) N cq) (.slice (some ⟨gs, 0, none⟩) N cs) qs' ⟨S.tick, S.ls.set c (offL L no sz ds)⟩ ∧ RChg w ((w5.setCell ⟨gs, c * 4 + 0, none⟩ (.int .u64 (L.off + 1 : Nat))).setCell ⟨gs, c * 4 + 1, none⟩ (.int .u64 (L.drp + 1 : Nat))) p (.slice (some ⟨gb, 0, none⟩) N cb) (.slice (some ⟨gq, 0, none⟩) N cq) (.slice (some ⟨gs, 0, none⟩) N cs) qs qs') := Lib.hid fun hc =>
      rOffer_end (y' := .slice a3 Q'.L.length k3) (by rw [hbx]; exact HA.out) h7 hL hy (by rw [HEQ.out]; exact hR5) hP5 hOw hO45 (Only.setCell (S := fun k => (Value.slice (some ⟨gs, 0, none⟩) N cs).ownBlock = some k) (p := ⟨gs, c * 4 + 1, none⟩) (Only.setCell (S := fun k => (Value.slice (some ⟨gs, 0, none⟩) N cs).ownBlock = some k) (p := ⟨gs, c * 4 + 0, none⟩) (Only.refl _ _) (fun _ => rfl) _) (fun _ => rfl) _) hj7
        (by
          have e : sRow (offL L no sz ds) = ((sRow L).set 0 (.int .u64 (L.off + 1 : Nat))).set 1 (.int .u64 (L.drp + 1 : Nat)) := by unfold sRow offL; rw [if_pos (by rw [hC']; exact hc)]; rfl
          rw [e]
          exact hPb) hQq
    simp only [Nat.add_zero] at HEa HEb
    clear hL hy h7 hR8 hB8 hj7 hblk hr5 hP5 hR5 hsr hfs hs5 hPa hPb hOw hO45 HX hS5 hO5 hQq hqq e2 e3 ha HEV HF HH HA HEQ
    by_cases hc : c' = 110
    · have HE := Lib.hid (HEb.out hc)
      clear HEa HEb
      subst hc
      go_wp2_with fail
      go_ret
      exact ⟨rfl, HE.out⟩
    · have HE := Lib.hid (HEa.out hc)
      clear HEa HEb
      go_wp2_with fail
      go_ret
      exact ⟨rfl, HE.out⟩

theorem rOffer_any (c sz : Int) (no : Nat) (ds : List Nat) {w : World} {B p n : Nat} {bv qv sv : Value} {qs : List Value} {S : Sh} (h : IsR w B p bv qv sv qs S) (hS : S.Ok n) (hQ : ∀ L ∈ S.ls, QOk L.Q) (hBw : B ≤ w.heap.size) :
    Calls Try.prog 40 #[ptr p, .int .i64 c, .agg #[.int .u64 no, .int .i64 sz, .string (str8 ds)]] w fun e w' => e = .returned (.int .i64 (S.offC c sz)) ∧ ∃ qs', IsR w' B p bv qv sv qs' (S.off c sz no ds) ∧ RChg w w' p bv qv sv qs qs' := by
  cases hb : S.offB c sz with
  | false =>
    have hbad : ¬ (0 ≤ c ∧ c < S.ls.length) ∨ sz < 0 ∨ 2048 < sz := by
      have h2 : ¬ ((0 ≤ c ∧ c < S.ls.length) ∧ (0 ≤ sz ∧ sz ≤ 2048)) := fun e => by
        have h3 : S.offB c sz = true := by
          unfold Sh.offB
          rw [decide_eq_true e.1, decide_eq_true e.2]
          rfl
        rw [hb] at h3
        cases h3
      omega
    refine (rOffer_bad h c sz no (str8 ds) hbad).mono fun e w' ⟨he, hB⟩ => ?_
    unfold Sh.offC Sh.off
    rw [hb]
    exact ⟨he, qs, h.below hB, RChg.below hB⟩
  | true =>
    obtain ⟨k, L, rfl, hL, h0, h1⟩ := offB_some hb
    unfold Sh.offC Sh.off
    rw [if_pos hb, if_pos hb, Int.toNat_natCast, hL]
    exact rOffer_ok h hS hQ hBw hL no sz ds h0 h1
end Go.Proofs.Ythipfcmjpgbemaa

/- The document's Clear: walked. -/
namespace Go.Proofs.Ythipfcmjpgbemaa
open Go.RowKit

theorem RP.inQ0 {w : World} {B p tick c g n cap : Nat} {bv qv sv : Value} {rb rq rs : List (List Value)} {r : List Value} {u : Value} {j : Nat} (h : RP w B p tick bv qv sv rb rq rs) (hc : rq[c]? = some r) (hv : qv = .slice (some ⟨g, 0, none⟩) n cap) (hj : j < 4) :
    RP (w.setCell ⟨g, c * 4 + j, none⟩ u) B p tick bv qv sv rb (rq.set c (r.set j u)) rs ∧ Only (fun k => qv.ownBlock = some k) w (w.setCell ⟨g, c * 4 + j, none⟩ u) := by
  have hO : Only (fun k => qv.ownBlock = some k) w (w.setCell ⟨g, c * 4 + j, none⟩ u) := Only.setCell (S := fun k => qv.ownBlock = some k) (p := ⟨g, c * 4 + j, none⟩) (Only.refl _ _) (fun _ => by rw [hv]; rfl) _
  exact ⟨h.inQ hO (h.q.cell hc hv hj), hO⟩
theorem RP.inS0 {w : World} {B p tick c g n cap : Nat} {bv qv sv : Value} {rb rq rs : List (List Value)} {r : List Value} {u : Value} {j : Nat} (h : RP w B p tick bv qv sv rb rq rs) (hc : rs[c]? = some r) (hv : sv = .slice (some ⟨g, 0, none⟩) n cap) (hj : j < 4) :
    RP (w.setCell ⟨g, c * 4 + j, none⟩ u) B p tick bv qv sv rb rq (rs.set c (r.set j u)) ∧ Only (fun k => sv.ownBlock = some k) w (w.setCell ⟨g, c * 4 + j, none⟩ u) := by
  have hO : Only (fun k => sv.ownBlock = some k) w (w.setCell ⟨g, c * 4 + j, none⟩ u) := Only.setCell (S := fun k => sv.ownBlock = some k) (p := ⟨g, c * 4 + j, none⟩) (Only.refl _ _) (fun _ => by rw [hv]; rfl) _
  exact ⟨h.inS hO (h.s.cell hc hv hj), hO⟩
theorem RP.inB0 {w : World} {B p tick c g n cap : Nat} {bv qv sv : Value} {rb rq rs : List (List Value)} {r : List Value} {u : Value} {j : Nat} (h : RP w B p tick bv qv sv rb rq rs) (hc : rb[c]? = some r) (hv : bv = .slice (some ⟨g, 0, none⟩) n cap) (hj : j < 4) :
    RP (w.setCell ⟨g, c * 4 + j, none⟩ u) B p tick bv qv sv (rb.set c (r.set j u)) rq rs ∧ Only (fun k => bv.ownBlock = some k) w (w.setCell ⟨g, c * 4 + j, none⟩ u) := by
  have hO : Only (fun k => bv.ownBlock = some k) w (w.setCell ⟨g, c * 4 + j, none⟩ u) := Only.setCell (S := fun k => bv.ownBlock = some k) (p := ⟨g, c * 4 + j, none⟩) (Only.refl _ _) (fun _ => by rw [hv]; rfl) _
  exact ⟨h.inB hO (h.b.cell hc hv hj), hO⟩
theorem IsR.rqa {w : World} {B p : Nat} {bv qv sv : Value} {qs : List Value} {S : Sh} (h : IsR w B p bv qv sv qs S) : ∃ a cap, qv = .slice a S.ls.length cap := by
  obtain ⟨a, cap, e⟩ := h.rp.q.shape
  rw [List.length_zipWith, h.ql, Nat.min_self] at e
  exact ⟨a, cap, e⟩

theorem rclear_end {w : World} {B p c g n cap : Nat} {bv qv sv y : Value} {qs : List Value} {S : Sh} {L : Ln} (h : IsR w B p bv qv sv qs ⟨S.tick, clrTo c S.ls⟩) (hL : S.ls[c]? = some L) (hy : qs[c]? = some y) (hv : qv = .slice (some ⟨g, 0, none⟩) n cap) :
    ∃ qs', IsR (w.setCell ⟨g, c * 4, none⟩ (.slice none 0 0)) B p bv qv sv qs' ⟨S.tick, clrTo (c + 1) S.ls⟩ ∧ RChg w (w.setCell ⟨g, c * 4, none⟩ (.slice none 0 0)) p bv qv sv qs qs' := by
  have hL' : (Sh.mk S.tick (clrTo c S.ls)).ls[c]? = some L := clrTo_at hL
  have hq := zip_at hy hL'
  obtain ⟨hP, hO⟩ := h.rp.inQ0 (u := .slice none 0 0) hq hv (j := 0) (by decide)
  simp only [Nat.add_zero] at hP hO
  have hOR : Only (RD p bv qv sv) w (w.setCell ⟨g, c * 4, none⟩ (.slice none 0 0)) := hO.mono fun k _ e => .inr (.inr (.inl e))
  refine ⟨qs.set c (.slice none 0 0), ?_, rchg_set hy hOR (fun j hj => by simp [Value.ownBlock] at hj)⟩
  rw [← clrTo_set hL]
  exact isR_set (S := ⟨S.tick, clrTo c S.ls⟩) (L' := clr L) (tick := S.tick) h hL' hP (by rw [show bRow (clr L) = bRow L from rfl, set_self (by rw [List.getElem?_map, hL']; rfl)]) rfl (by rw [show sRow (clr L) = sRow L from rfl, set_self (by rw [List.getElem?_map, hL']; rfl)]) (.inl ⟨rfl, rfl⟩) hOR

def RcRel (W : World) (B p : Nat) (bv qv sv : Value) (qs : List Value) (S : Sh) (nv iv : Value) (w : World) : Prop :=
  ∃ (c : Nat) (qs' : List Value), iv = .int .i64 c ∧ c ≤ S.ls.length ∧ nv = .int .i64 (total (S.ls.take c)) ∧ IsR w B p bv qv sv qs' ⟨S.tick, clrTo c S.ls⟩ ∧ RChg W w p bv qv sv qs qs'
set_option maxRecDepth 100000 in
theorem rClear_is {w : World} {B p n : Nat} {bv qv sv : Value} {qs : List Value} {S : Sh} (h : IsR w B p bv qv sv qs S) (hS : S.Ok n) :
    Calls Try.prog 43 #[ptr p] w fun e w' => e = .returned (.int .i64 (total S.ls)) ∧ ∃ qs', IsR w' B p bv qv sv qs' ⟨S.tick, S.ls.map clr⟩ ∧ RChg w w' p bv qv sv qs qs' := by
  obtain ⟨qa, qc, rfl⟩ := h.rqa
  have HS := Lib.hid hS
  have HH := Lib.hid h
  have hl8 := hS.len
  clear h hS
  unfold ptr
  go_enter Try.func43, Try.ntmps43
  go_wp2_with fail
  go_loopw [3, 4] (RcRel w B p bv (.slice qa S.ls.length qc) sv qs S) (fun _ i _ => S.ls.length - (intOf i).toNat)
  case atStart => exact ⟨0, qs, rfl, Nat.zero_le _, rfl, by rw [clrTo_zero]; exact HH.out, RChg.below (Below.refl _ _)⟩
  case round =>
    clear HH
    obtain ⟨c, qs', rfl, hc, rfl, hI, hG⟩ := hrel
    have htot : total S.ls ≤ 8000000 := HS.out.total
    have c2 := hI.rp.c2
    by_cases hlt : c < S.ls.length
    · obtain ⟨L, hL⟩ : ∃ L, S.ls[c]? = some L := ⟨_, List.getElem?_eq_getElem hlt⟩
      obtain ⟨y, hy, hrl⟩ := hI.q (clrTo_at hL)
      obtain ⟨gb, gq, gs, cb, cq, cs, -, eq, -, -, hq, -, -, hql, -⟩ := hI.cells (clrTo_at hL) hy
      injection eq with e1 e2 e3
      subst e1 e3
      clear e2
      obtain ⟨ya, yc, ey⟩ := hrl.shape
      subst ey
      have q0 := hq 0 (by decide)
      simp only [Nat.add_zero] at q0
      replace q0 : wr.cell? ⟨gq, c * 4, none⟩ = some (.slice ya L.Q.L.length yc) := q0
      have f0 := hI.rp.q.fr (by rw [List.length_zipWith, hI.ql, clrTo_len]; omega) rfl (c * 4)
      have hci : (c : Int) < (S.ls.length : Int) := by omega
      have htk : total (S.ls.take (c + 1)) = total (S.ls.take c) + L.Q.L.length := total_take hL
      have ht2 : total (S.ls.take (c + 1)) ≤ 8000000 := Nat.le_trans (total_le_all S.ls (c + 1)) htot
      have hwr : IntKind.i64.wrap ((total (S.ls.take c) : Int) + (L.Q.L.length : Int)) = ((total (S.ls.take (c + 1)) : Nat) : Int) := by rw [IntWalk.i64_in _ (by omega), htk]; rfl
      obtain ⟨qs2, h1, h2⟩ := rclear_end hI hL hy rfl
      have HM : Hid (RcRel w B p bv (.slice (some ⟨gq, 0, none⟩) S.ls.length qc) sv qs S (.int .i64 ((total (S.ls.take (c + 1)) : Nat) : Int)) (.int .i64 (c + 1 : Nat)) (wr.setCell ⟨gq, c * 4, none⟩ (.slice none 0 0))) :=
        Lib.hid ⟨c + 1, qs2, rfl, hlt, rfl, h1, hG.trans h2⟩
      clear hI hG hL hy hrl hq h1 h2 htk htot
      go_wp2_with fail
      go_roundw
      case rel => exact HM.out
      case measure => simp [intOf]; omega
    · obtain rfl : c = S.ls.length := by omega
      have HX := Lib.hid (And.intro hI hG)
      clear hI hG
      go_wp2_with fail
      go_ret
      exact ⟨by rw [List.take_length]; rfl, qs', by rw [← clrTo_all]; exact HX.out.1, HX.out.2⟩
end Go.Proofs.Ythipfcmjpgbemaa

/- The shaper and the document's, side by side: an act on both: walked. -/
import Derived.Test.YthipfcmjpgbemaaGq
import Derived.Test.YthipfcmjpgbemaaGr
namespace Go.Proofs.Ythipfcmjpgbemaa
open Go.RowKit

theorem IsR.qlt {w : World} {B p : Nat} {bv qv sv : Value} {qs : List Value} {S : Sh} (h : IsR w B p bv qv sv qs S) {y : Value} (hy : y ∈ qs) {k : Nat} (hk : y.ownBlock = some k) : B ≤ k ∧ k < w.heap.size := by
  obtain ⟨c, hc⟩ := List.mem_iff_getElem?.1 hy
  have hcl := (List.getElem?_eq_some_iff.1 hc).1
  obtain ⟨L, hL⟩ : ∃ L, S.ls[c]? = some L := ⟨_, List.getElem?_eq_getElem (by rw [← h.ql]; exact hcl)⟩
  exact (h.rl c L y hL hc).ge k hk

/-- The shaper, the document's. -/
structure Both (W w : World) (p : Nat) (O : Nat → Nat) (v : Value) (ps : List Nat) (pr : Nat) (bv qv sv : Value) (qs : List Value) (S R : Sh) : Prop where
  m : MineS W w p O v ps S
  r : IsR w W.heap.size pr bv qv sv qs R
  dj : ∀ k, RD pr bv qv sv k → O k = 0
  dq : ∀ y ∈ qs, ∀ k, y.ownBlock = some k → O k = 0
section
variable {W w w' : World} {p : Nat} {O O' : Nat → Nat} {v : Value} {ps : List Nat} {pr : Nat} {bv qv sv : Value} {qs qs' : List Value} {S R S' R' : Sh}
theorem Both.stepS (h : Both W w p O v ps pr bv qv sv qs S R) (hI : IsS w' p O' v ps S') (hG : Grow O O' w w') : Both W w' p O' v ps pr bv qv sv qs S' R := by
  have hz : ∀ j, j < w.heap.size → O j = 0 → O' j = 0 := fun j hj h0 => by
    rcases Nat.eq_zero_or_pos (O' j) with e | e
    · exact e
    · rcases hG.new j (by omega) with e2 | e2 <;> omega
  exact ⟨h.m.step hI hG, h.r.keep hG.only (fun k hk e => e (h.dj k hk)) (fun y hy k hk e => e (h.dq y hy k hk)), fun k hk => hz k (h.r.rp.lt hk).2 (h.dj k hk), fun y hy k hk => hz k (h.r.qlt hy hk).2 (h.dq y hy k hk)⟩
theorem Both.stepR (h : Both W w p O v ps pr bv qv sv qs S R) (hR : IsR w' W.heap.size pr bv qv sv qs' R') (hC : RChg w w' pr bv qv sv qs qs') : Both W w' p O v ps pr bv qv sv qs' S R' := by
  refine ⟨⟨h.m.is.keep hC.only (fun k hk e => hk (h.dj k e)), h.m.ge, h.m.bel.trans (hC.only.below h.m.bel.size (fun k hk e => by have := (h.r.rp.lt e).1; omega))⟩, hR, h.dj, fun y hy k hk => ?_⟩
  rcases hC.new y hy k hk with ⟨y0, h0, e⟩ | e
  · exact h.dq y0 h0 k e
  · exact h.m.is.zero e
theorem Both.other (h : Both W w p O v ps pr bv qv sv qs S R) {T : Nat → Prop} (hO : Only T w w') (hT : ∀ k, T k → W.heap.size ≤ k) (h1 : ∀ k, T k → O k = 0) (h2 : ∀ k, T k → ¬ RD pr bv qv sv k) (h3 : ∀ k, T k → ∀ y ∈ qs, ¬ y.ownBlock = some k) : Both W w' p O v ps pr bv qv sv qs S R :=
  ⟨⟨h.m.is.keep hO (fun k hk e => hk (h1 k e)), h.m.ge, h.m.bel.trans (hO.below h.m.bel.size (fun k hk e => by have := hT k e; omega))⟩, h.r.keep hO (fun k hk e => h2 k e hk) (fun y hy k hk e => h3 k e y hy hk), h.dj, h.dq⟩
theorem Both.below (h : Both W w p O v ps pr bv qv sv qs S R) (hB : Below w.heap.size w w') : Both W w' p O v ps pr bv qv sv qs S R :=
  h.other (Below.only hB (fun _ => False)) (fun _ h => h.elim) (fun _ h => h.elim) (fun _ h => h.elim) (fun _ h => h.elim)
end

/-- What an act does. -/
def Sh.act (S : Sh) (A : Ac) : Sh :=
  if A.kind = 0 ∨ A.kind = 1 ∨ A.kind = 2 then S.off A.cls A.size A.no A.ds
  else if A.kind = 3 ∨ A.kind = 4 then (S.rel A.tick).1
  else if A.kind = 5 then ⟨S.tick, S.ls.map clr⟩ else S
def DoesOk (W : World) (p : Nat) (v : Value) (ps : List Nat) (pr : Nat) (bv qv sv : Value) (S : Sh) (e : Ending) (w : World) : Prop :=
  e = .returned (.bool true) ∧ ∃ O qs, Both W w p O v ps pr bv qv sv qs S S

set_option maxRecDepth 100000 in
theorem does_clear (A : Ac) (hk : A.kind = 5) {W w : World} {p : Nat} {O : Nat → Nat} {v : Value} {ps : List Nat} {pr : Nat} {bv qv sv : Value} {qs : List Value} {S : Sh} {n : Nat} (h : Both W w p O v ps pr bv qv sv qs S S) (hS : S.Ok n) (hd : Holds8 w A.dv A.ds) :
    Calls Try.prog 23 #[ptr p, ptr pr, .agg A.arr] w (DoesOk W p v ps pr bv qv sv ⟨S.tick, S.ls.map clr⟩) := by
  obtain ⟨ya, yc, ed, -⟩ := hd
  unfold Ac.arr
  rw [ed, hk]
  have hA : Below w.heap.size w (w.alloc (.cells #[.int .i64 5, .int .i64 A.cls, .int .u64 A.no, .int .i64 A.size, .slice ya A.ds.length yc, .int .u64 A.tick] 36)) := (Below.refl _ _).alloc (Nat.le_refl _) _
  have H1 := Lib.hid (h.below hA)
  have HC := Lib.hid (Clear_is H1.out.m.is hS)
  clear h hA
  unfold ptr at *
  go_enter Try.func23, Try.ntmps23
  go_wp2_with fail
  refine HC.out.mono ?_
  rintro e w2 ⟨rfl, O2, hI, hG⟩
  have H2 := Lib.hid (H1.out.stepS hI hG)
  have HR := Lib.hid (rClear_is H2.out.r hS)
  unfold ptr at HR
  clear hI hG HC
  go_wp2_with fail
  refine HR.out.mono ?_
  rintro e w3 ⟨rfl, qs3, hR, hC⟩
  have H3 := Lib.hid (H2.out.stepR hR hC)
  clear hR hC HR
  go_wp2_with fail
  go_ret
  exact ⟨rfl, O2, qs3, H3.out⟩
set_option maxRecDepth 100000 in
theorem does_none (A : Ac) (hk : ∀ j : Nat, j ≤ 5 → A.kind ≠ j) {W w : World} {p : Nat} {O : Nat → Nat} {v : Value} {ps : List Nat} {pr : Nat} {bv qv sv : Value} {qs : List Value} {S : Sh} (h : Both W w p O v ps pr bv qv sv qs S S) (hd : Holds8 w A.dv A.ds) :
    Calls Try.prog 23 #[ptr p, ptr pr, .agg A.arr] w (DoesOk W p v ps pr bv qv sv S) := by
  obtain ⟨ya, yc, ed, -⟩ := hd
  unfold Ac.arr
  rw [ed]
  have h0 : ¬ A.kind = 0 := hk 0 (by decide)
  have h1 : ¬ A.kind = 1 := hk 1 (by decide)
  have h2 : ¬ A.kind = 2 := hk 2 (by decide)
  have h3 : ¬ A.kind = 3 := hk 3 (by decide)
  have h4 : ¬ A.kind = 4 := hk 4 (by decide)
  have h5 : ¬ A.kind = 5 := hk 5 (by decide)
  have H1 := Lib.hid (h.below (w' := w.alloc (.cells #[.int .i64 A.kind, .int .i64 A.cls, .int .u64 A.no, .int .i64 A.size, .slice ya A.ds.length yc, .int .u64 A.tick] 36)) ((Below.refl _ _).alloc (Nat.le_refl _) _))
  clear h hk
  unfold ptr at *
  go_enter Try.func23, Try.ntmps23
  go_wp2_with fail
  go_ret
  exact ⟨rfl, O, qs, H1.out⟩
end Go.Proofs.Ythipfcmjpgbemaa

/- An offer to both: walked. -/
namespace Go.Proofs.Ythipfcmjpgbemaa
open Go.RowKit

/-- Behind Own: the item lies in a block. -/
def OwRel (w1 : World) (no : Nat) (sz : Int) (ds : List Nat) (u : Value) (w : World) : Prop :=
  ∃ (g : Nat) (y : Value), u = .pointer (some ⟨g, 0, none⟩) ∧ w.heap[g]? = some (.cells #[.int .u64 no, .int .i64 sz, y] 34 (0, 0)) ∧ Own8 w w1.heap.size y ds ∧ Below w1.heap.size w1 w ∧ w1.heap.size ≤ g

set_option maxRecDepth 100000 in
set_option maxHeartbeats 2000000 in
theorem does_offer (A : Ac) (hk : A.kind = 0 ∨ A.kind = 1 ∨ A.kind = 2) {W w : World} {p : Nat} {O : Nat → Nat} {v : Value} {ps : List Nat} {pr : Nat} {bv qv sv : Value} {qs : List Value} {S : Sh} {n : Nat} (h : Both W w p O v ps pr bv qv sv qs S S) (hS : S.Ok n) (hd : Holds8 W A.dv A.ds) (hdl : A.ds.length ≤ 1000) :
    Calls Try.prog 23 #[ptr p, ptr pr, .agg A.arr] w (DoesOk W p v ps pr bv qv sv (S.off A.cls A.size A.no A.ds)) := by
  have HD := Lib.hid hd
  obtain ⟨ya, yc, ed, -⟩ := hd
  rw [ed] at HD
  unfold Ac.arr
  rw [ed]
  have hA : Below w.heap.size w (w.alloc (.cells #[.int .i64 A.kind, .int .i64 A.cls, .int .u64 A.no, .int .i64 A.size, .slice ya A.ds.length yc, .int .u64 A.tick] 36)) := (Below.refl _ _).alloc (Nat.le_refl _) _
  have gA := alloc_block_new w (.cells #[.int .i64 A.kind, .int .i64 A.cls, .int .u64 A.no, .int .i64 A.size, .slice ya A.ds.length yc, .int .u64 A.tick] 36)
  have H1 := Lib.hid (h.below hA)
  have hrd : ∀ k, RD pr bv qv sv k → k < w.heap.size := fun k hk => (h.r.rp.lt hk).2
  have hql : ∀ y ∈ qs, ∀ k, y.ownBlock = some k → k < w.heap.size := fun y hy k hk => (h.r.qlt hy hk).2
  have HX := Lib.hid (And.intro hrd (And.intro hql (And.intro gA h.m.bel)))
  have hOa : O w.heap.size = 0 := h.m.is.zero (Nat.le_refl _)
  have hws : w.heap.size < (w.alloc (.cells #[.int .i64 A.kind, .int .i64 A.cls, .int .u64 A.no, .int .i64 A.size, .slice ya A.ds.length yc, .int .u64 A.tick] 36)).heap.size := lt_of_obj gA
  have hWw := h.m.bel.size
  clear h hA gA hrd hql ed
  unfold ptr at *
  generalize hw1 : w.alloc (.cells #[.int .i64 A.kind, .int .i64 A.cls, .int .u64 A.no, .int .i64 A.size, .slice ya A.ds.length yc, .int .u64 A.tick] 36) = w1 at *
  generalize hab : w.heap.size = ab at *
  have HW1 := Lib.hid (And.intro hw1 hab)
  clear hw1 hab
  go_enter Try.func23, Try.ntmps23
  rcases hk with hk | hk | hk
  all_goals
    go_upto_region 5 with (fail)
    obtain ⟨hw1, hab⟩ := HW1.out
    rw [hk] at hw1
    rw [hab, hw1]
    try rw [hk]
    clear hw1 hab HW1 hk
    have a1 : w1.cell? ⟨ab, 1, none⟩ = some (.int .i64 A.cls) := cell_of_block HX.out.2.2.1 1
    have a2 : w1.cell? ⟨ab, 2, none⟩ = some (.int .u64 A.no) := cell_of_block HX.out.2.2.1 2
    have a3 : w1.cell? ⟨ab, 3, none⟩ = some (.int .i64 A.size) := cell_of_block HX.out.2.2.1 3
    have a4 : w1.cell? ⟨ab, 4, none⟩ = some (.slice ya A.ds.length yc) := cell_of_block HX.out.2.2.1 4
    have HOW : Hid (∀ w', Below w1.heap.size w1 w' → Calls Try.prog 39 #[.slice ya A.ds.length yc] w' fun e w'' => ∃ v', e = .returned v' ∧ Own8 w'' w'.heap.size v' A.ds ∧ Below w'.heap.size w' w'') := Lib.hid fun w' hB => own_is ((HD.out.below H1.out.m.bel).below hB) (by omega)
    have no1 : ¬ ab = w1.heap.size := by omega
    have no2 : ¬ w1.heap.size = ab := by omega
    go_cut [7] (OwRel w1 A.no A.size A.ds)
    case first =>
      go_region_held3 (fun w' => w'.cell? ⟨ab, 2, none⟩ = some (.int .u64 A.no) ∧ w'.cell? ⟨ab, 3, none⟩ = some (.int .i64 A.size) ∧ w'.cell? ⟨ab, 4, none⟩ = some (.slice ya A.ds.length yc)) (go_keep)
        (first
          | (go_at_call 39; refine Calls.mono (HOW.out _ ?_) ?_
             · first | exact (Below.refl _ _).drew | exact ((Below.refl _ _).alloc (Nat.le_refl _) _).drew | exact ((Below.refl _ _).drew).alloc (Nat.le_refl _) _
             rintro e w3 ⟨y, rfl, hy, hB3⟩
             obtain ⟨y1, y2, ey⟩ := own_shape hy
             subst ey
             have hyb : ∀ k, (Value.slice y1 A.ds.length y2).ownBlock = some k → w1.heap.size ≤ k := fun k hk => by
               have h := own_ge hy k hk
               first | exact h | exact Nat.le_of_succ_le h | (simp at h; omega)
             have hB : Below w1.heap.size w1 w3 := by
               first
                 | exact (Below.refl w1.heap.size w1).drew.trans hB3
                 | exact (((Below.refl w1.heap.size w1).drew).alloc (Nat.le_refl _) _).trans (hB3.mono (by simp))
                 | exact (((Below.refl w1.heap.size w1).alloc (Nat.le_refl _) _).drew).trans (hB3.mono (by simp))
             have i0 := (hB.cell (p := ⟨ab, 2, none⟩) hws).trans a2
             have i1 := (hB.cell (p := ⟨ab, 3, none⟩) hws).trans a3
             have i2 := (hB.cell (p := ⟨ab, 4, none⟩) hws).trans a4
             first
               | (have HNn := Lib.hid (new_in hB3)
                  have t0 := cell_of_block HNn.out 0; have t1 := cell_of_block HNn.out 1; have t2 := cell_of_block HNn.out 2
                  have f0 := free_of_block HNn.out 0; have f1 := free_of_block HNn.out 1; have f2 := free_of_block HNn.out 2
                  dsimp at t0 t1 t2)
               | (have HNn := Lib.hid (new_in' hB3)
                  have t0 := cell_of_block HNn.out 0; have t1 := cell_of_block HNn.out 1; have t2 := cell_of_block HNn.out 2
                  have f0 := free_of_block HNn.out 0; have f1 := free_of_block HNn.out 1; have f2 := free_of_block HNn.out 2
                  dsimp at t0 t1 t2)
               | skip
             have hs3 := hB.size
             have ne1 : ¬ ab = w3.heap.size := by omega
             have ne2 : ¬ w3.heap.size = ab := by omega
             have H3 := Lib.hid (And.intro hB (And.intro hy hyb)); clear hB3 hB hy hyb))
      all_goals
        clear i0 i1 i2 ne1 ne2 no1 no2
        obtain ⟨hB, hy, hyb⟩ := H3.out
        have hy2 := own_raise (own_lower hy (Nat.zero_le _)) hyb
        go_wp2_with fail
        go_meet
        case rel =>
          first
            | exact ⟨_, _, rfl, alloc_block_new w3 _, own_only hy2 (Below.only ((Below.refl _ _).alloc (Nat.le_refl _) _) (fun _ => False)) (fun _ _ h => h), hB.alloc hB.size _, hB.size⟩
            | (obtain ⟨hbn, hbO⟩ := set3_blk HNn.out (.int .u64 A.no) (.int .i64 A.size) (.slice y1 A.ds.length y2)
               have hyn : ∀ k, (Value.slice y1 A.ds.length y2).ownBlock = some k → ¬ k = w1.heap.size := fun k hk e => by
                 obtain ⟨d, hd⟩ := row_type hy k hk
                 subst e
                 exact absurd (ty_apart hd HNn.out) (by decide)
               exact ⟨_, _, rfl, hbn, own_only hy2 hbO hyn, hB.trans (hbO.below hB.size (fun j hj e => by omega)), Nat.le_refl _⟩)
    case rest =>
      obtain ⟨g7, y, rfl, hg7, hy, hB7, hs7⟩ := hcut
      obtain ⟨y1, y2, ey⟩ := own_shape hy
      subst ey
      have H7 := Lib.hid (H1.out.below hB7)
      have b1 := (hB7.cell (p := ⟨ab, 1, none⟩) hws).trans a1
      have z0 : wc.cell? ⟨g7, 0, none⟩ = some (.int .u64 A.no) := cell_of_block hg7 0
      have z1 : wc.cell? ⟨g7, 1, none⟩ = some (.int .i64 A.size) := cell_of_block hg7 1
      have z2 : wc.cell? ⟨g7, 2, none⟩ = some (.slice y1 A.ds.length y2) := cell_of_block hg7 2
      have hyz : ∀ k, (Value.slice y1 A.ds.length y2).ownBlock = some k → O k = 0 := fun k hk => H1.out.m.is.zero (own_ge hy k hk)
      have HO := Lib.hid (offer_any A.cls A.size A.no _ A.ds H7.out.m.is hS hy.holds (fun _ => hyz) (by omega))
      have HQ := Lib.hid H1.out.m.is.qok
      have hgz : O g7 = 0 := H1.out.m.is.zero hs7
      have hab7 := (hB7.block _ hws).trans HX.out.2.2.1
      have HY := Lib.hid (And.intro hg7 (And.intro hy (And.intro hyz (And.intro hgz (And.intro hab7 (And.intro hs7 hB7))))))
      clear hg7 hy hyz hgz hab7 hs7 hB7 a2 a3 a4 a1 no1 no2 HOW
      unfold ptr at HO
      go_wp2_with fail
      refine HO.out.mono ?_
      rintro e w2 ⟨rfl, O2, hI, hG⟩
      have H2 := Lib.hid (H7.out.stepS hI hG)
      have hg2 := hG.only.keep HY.out.1 (fun e => e HY.out.2.2.2.1)
      have hy2 := own_only HY.out.2.1 hG.only (fun k hk e => e (HY.out.2.2.1 k hk))
      have hab2 := hG.only.keep HY.out.2.2.2.2.1 (fun e => e hOa)
      have x2 : w2.cell? ⟨g7, 2, none⟩ = some (.slice y1 A.ds.length y2) := cell_of_block hg2 2
      have HSP := Lib.hid (spoil_is hy2)
      have hz2 : ∀ k, (Value.slice y1 A.ds.length y2).ownBlock = some k → O2 k = 0 := fun k hk => by
        rcases Nat.eq_zero_or_pos (O2 k) with e | e
        · exact e
        · have h1 := own_lt HY.out.2.1 k hk
          have h2 := HY.out.2.2.1 k hk
          rcases hG.new k (by omega) with e2 | e2 <;> omega
      have HZ := Lib.hid (And.intro hz2 hab2)
      clear hI hG hg2 hy2 hab2 hz2 HO z0 z1 z2 b1
      go_wp2_with fail
      refine HSP.out.mono ?_
      rintro e w3 ⟨⟨ev, rfl⟩, hO3, hT3⟩
      have hyg : ∀ k, (Value.slice y1 A.ds.length y2).ownBlock = some k → ab < k := fun k hk => by have := own_ge HY.out.2.1 k hk; omega
      have H3 := Lib.hid (H2.out.other hO3 (fun k hk => by have := hyg k hk; omega) HZ.out.1 (fun k hk e => by have := hyg k hk; have := HX.out.1 k e; omega) (fun k hk y' hy' e => by have := hyg k hk; have := HX.out.2.1 y' hy' k e; omega))
      have hab3 := hO3.keep HZ.out.2 (fun e => by have := hyg _ e; omega)
      have habl := lt_of_obj hab3
      have c1 : w3.cell? ⟨ab, 1, none⟩ = some (.int .i64 A.cls) := cell_of_block hab3 1
      have c2 : w3.cell? ⟨ab, 2, none⟩ = some (.int .u64 A.no) := cell_of_block hab3 2
      have c3 : w3.cell? ⟨ab, 3, none⟩ = some (.int .i64 A.size) := cell_of_block hab3 3
      have c4 : w3.cell? ⟨ab, 4, none⟩ = some (.slice ya A.ds.length yc) := cell_of_block hab3 4
      have HIT : Hid (∀ w', Below w3.heap.size w3 w' → Calls Try.prog 13 #[.agg #[.int .u64 A.no, .int .i64 A.size, .slice ya A.ds.length yc]] w' fun e w'' => e = .returned (.agg #[.int .u64 A.no, .int .i64 A.size, .string (str8 A.ds)]) ∧ Below w'.heap.size w' w'') := Lib.hid fun w' hB => ditem_is _ _ _ _ _ ((HD.out.below H3.out.m.bel).below hB)
      have HRO : Hid (∀ w', Below w3.heap.size w3 w' → Calls Try.prog 40 #[.pointer (some ⟨pr, 0, none⟩), .int .i64 A.cls, .agg #[.int .u64 A.no, .int .i64 A.size, .string (str8 A.ds)]] w' fun e w'' => e = .returned (.int .i64 (S.offC A.cls A.size)) ∧ ∃ qs', IsR w'' W.heap.size pr bv qv sv qs' (S.off A.cls A.size A.no A.ds) ∧ RChg w' w'' pr bv qv sv qs qs') := Lib.hid fun w' hB => rOffer_any A.cls A.size A.no A.ds (H3.out.r.below hB) hS HQ.out (by have := H3.out.m.bel.size; have := hB.size; omega)
      have hrda : ¬ RD pr bv qv sv ab := fun e => by have := HX.out.1 ab e; omega
      generalize S.offC A.cls A.size = cd at *
      generalize hSo : S.off A.cls A.size A.no A.ds = S' at *
      clear hO3 hT3 hab3 HSP HZ HY H2 H7 H1 x2 hyg
      go_wp2_with fail
      go_region_held3 (fun w' => w'.cell? ⟨ab, 1, none⟩ = some (.int .i64 A.cls) ∧ w'.cell? ⟨ab, 2, none⟩ = some (.int .u64 A.no) ∧ w'.cell? ⟨ab, 3, none⟩ = some (.int .i64 A.size) ∧ w'.cell? ⟨ab, 4, none⟩ = some (.slice ya A.ds.length yc)) (go_keep)
        (first
          | (go_at_call 13; refine Calls.mono (HIT.out _ ?_) ?_
             · exact (Below.refl _ _).drew
             rintro e w4 ⟨rfl, hB4⟩
             have HB4 : Hid (Below w3.heap.size w3 w4) := Lib.hid ((Below.refl w3.heap.size w3).drew.trans hB4)
             have i1 := (HB4.out.cell (p := ⟨ab, 1, none⟩) habl).trans c1
             have i2 := (HB4.out.cell (p := ⟨ab, 2, none⟩) habl).trans c2
             have i3 := (HB4.out.cell (p := ⟨ab, 3, none⟩) habl).trans c3
             have i4 := (HB4.out.cell (p := ⟨ab, 4, none⟩) habl).trans c4
             clear hB4)
          | (go_at_call 40; refine Calls.mono (HRO.out _ HB4.out) ?_
             rintro e w5 ⟨rfl, qs5, hR5, hC5⟩
             have j1 := (World.cell?_of_block (a := ⟨ab, 1, none⟩) (hC5.only.block ab (Nat.lt_of_lt_of_le habl HB4.out.size) hrda)).trans i1
             have j2 := (World.cell?_of_block (a := ⟨ab, 2, none⟩) (hC5.only.block ab (Nat.lt_of_lt_of_le habl HB4.out.size) hrda)).trans i2
             have j3 := (World.cell?_of_block (a := ⟨ab, 3, none⟩) (hC5.only.block ab (Nat.lt_of_lt_of_le habl HB4.out.size) hrda)).trans i3
             have j4 := (World.cell?_of_block (a := ⟨ab, 4, none⟩) (hC5.only.block ab (Nat.lt_of_lt_of_le habl HB4.out.size) hrda)).trans i4
             have H5 := Lib.hid ((H3.out.below HB4.out).stepR hR5 hC5)
             clear hR5 hC5))
      all_goals
        clear HIT HRO
        go_wp2_with fail
        go_ret
        exact ⟨rfl, O2, qs5, H5.out⟩
end Go.Proofs.Ythipfcmjpgbemaa

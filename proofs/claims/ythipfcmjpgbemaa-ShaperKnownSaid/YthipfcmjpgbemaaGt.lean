/- A release of both: walked. -/
import Derived.Test.YthipfcmjpgbemaaGs
namespace Go.Proofs.Ythipfcmjpgbemaa
open Go.RowKit

set_option maxRecDepth 100000 in
set_option maxHeartbeats 2000000 in
theorem does_release (A : Ac) (hk : A.kind = 3 ∨ A.kind = 4) {W w : World} {p : Nat} {O : Nat → Nat} {v : Value} {ps : List Nat} {pr : Nat} {bv qv sv : Value} {qs : List Value} {S : Sh} {n : Nat} (h : Both W w p O v ps pr bv qv sv qs S S) (hS : S.Ok n) (hn : n ≤ 10000) (hd : Holds8 w A.dv A.ds) (ht : A.tick < 18446744073709551616) :
    Calls Try.prog 23 #[ptr p, ptr pr, .agg A.arr] w (DoesOk W p v ps pr bv qv sv (S.rel A.tick).1) := by
  obtain ⟨ya, yc, ed, -⟩ := hd
  unfold Ac.arr
  rw [ed]
  have hA : Below w.heap.size w (w.alloc (.cells #[.int .i64 A.kind, .int .i64 A.cls, .int .u64 A.no, .int .i64 A.size, .slice ya A.ds.length yc, .int .u64 A.tick] 36)) := (Below.refl _ _).alloc (Nat.le_refl _) _
  have gA := alloc_block_new w (.cells #[.int .i64 A.kind, .int .i64 A.cls, .int .u64 A.no, .int .i64 A.size, .slice ya A.ds.length yc, .int .u64 A.tick] 36)
  have H1 := Lib.hid (h.below hA)
  have hrd : ∀ k, RD pr bv qv sv k → k < w.heap.size := fun k hk => (h.r.rp.lt hk).2
  have hql : ∀ y ∈ qs, ∀ k, y.ownBlock = some k → k < w.heap.size := fun y hy k hk => (h.r.qlt hy hk).2
  have hWw := h.m.bel.size
  have hOa : O w.heap.size = 0 := h.m.is.zero (Nat.le_refl _)
  have hws : w.heap.size < (w.alloc (.cells #[.int .i64 A.kind, .int .i64 A.cls, .int .u64 A.no, .int .i64 A.size, .slice ya A.ds.length yc, .int .u64 A.tick] 36)).heap.size := lt_of_obj gA
  have HX := Lib.hid (And.intro hrd (And.intro hql gA))
  have htot := rel_total S A.tick
  have hfew := few_total hS
  have HQ := Lib.hid h.m.is.qok
  have HS := Lib.hid hS
  clear h hA gA hrd hql ed
  unfold ptr at *
  generalize hw1 : w.alloc (.cells #[.int .i64 A.kind, .int .i64 A.cls, .int .u64 A.no, .int .i64 A.size, .slice ya A.ds.length yc, .int .u64 A.tick] 36) = w1 at *
  generalize hab : w.heap.size = ab at *
  have HW1 := Lib.hid (And.intro hw1 hab)
  clear hw1 hab hS
  have hlen : (S.rel A.tick).2.length ≤ 100000 := by omega
  have a5 : w1.cell? ⟨ab, 5, none⟩ = some (.int .u64 A.tick) := cell_of_block HX.out.2.2 5
  have hrda : ¬ RD pr bv qv sv ab := fun e => by have := HX.out.1 ab e; omega
  clear htot hfew
  go_enter Try.func23, Try.ntmps23
  rcases hk with hk | hk
  all_goals
    go_upto_region 11 with (fail)
    obtain ⟨hw1, hab⟩ := HW1.out
    rw [hk] at hw1
    rw [hab, hw1]
    try rw [hk]
    clear hw1 hab HW1 hk
    have HRL : Hid (∀ w', Below w1.heap.size w1 w' → Calls Try.prog 12 #[.pointer (some ⟨p, 0, none⟩), .int .u64 A.tick] w' (RelOk w' p O v ps (S.rel A.tick))) := Lib.hid fun w' hB => Release_is (H1.out.m.is.below hB) HS.out ht
    go_region_held3 (fun w' => w'.cell? ⟨ab, 5, none⟩ = some (.int .u64 A.tick)) (go_keep)
      (first
        | (go_at_call 12; refine Calls.mono (HRL.out _ (Below.refl w1.heap.size w1).drew) ?_
           rintro e w2 ⟨O2, F2, vo, xs, rfl, hR⟩
           have i5 := (World.cell?_of_block (a := ⟨ab, 5, none⟩) (hR.grow.only.block ab hws (fun e => e hOa))).trans a5
           have H2 := Lib.hid ((H1.out.below (Below.refl w1.heap.size w1).drew).stepS hR.is hR.grow)
           obtain ⟨va, vc, evo⟩ := own_shape hR.new.row
           subst evo
           have HR := Lib.hid hR
           have hab2 : ab < w2.heap.size := Nat.lt_of_lt_of_le hws hR.grow.only.size
           clear hR)
        | (go_at_call 42; refine Calls.mono (rRelease_is H2.out.r HS.out HQ.out H2.out.m.bel.size ht) ?_
           rintro e w3 ⟨ro, qs3, rfl, hrow, hR3, hC3⟩
           have j5 := (World.cell?_of_block (a := ⟨ab, 5, none⟩) (hC3.only.block ab hab2 hrda)).trans i5
           have H3 := Lib.hid (H2.out.stepR hR3 hC3)
           have hN3 := HR.out.new.keep hC3.only (fun k hk e => by have h1 := HR.out.new.ge k hk; have h2 := HX.out.1 k e; have h3 : w1.drew.heap.size = w1.heap.size := rfl; omega) (fun k hk e => by have h1 := own_ge HR.out.new.row k hk; have h2 := HX.out.1 k e; have h3 : w1.drew.heap.size = w1.heap.size := rfl; omega)
           obtain ⟨ra, rc, ero⟩ := own_shape hrow
           subst ero
           have HN3 := Lib.hid (And.intro hN3 (And.intro hrow hC3.new))
           have hab3 : ab < w3.heap.size := Nat.lt_of_lt_of_le hab2 hC3.only.size
           clear hrow hR3 hC3 hN3)
        | (go_at_call 41; refine Calls.mono (sameOuts_is HN3.out.1 HN3.out.2.1 hlen) ?_
           rintro e w4 ⟨rfl, hO4⟩
           have hge : ∀ k, (F2 k ∨ (Value.slice va (S.rel A.tick).2.length vc).ownBlock = some k) → ab < k ∧ k < w2.heap.size := fun k hk => by
             have h3 : w1.drew.heap.size = w1.heap.size := rfl
             rcases hk with hk | hk
             · exact ⟨by have h1 := HR.out.new.ge k hk; omega, HR.out.new.flt hk⟩
             · exact ⟨by have h1 := own_ge HR.out.new.row k hk; omega, HR.out.new.vlt hk⟩
           have k5 := (World.cell?_of_block (a := ⟨ab, 5, none⟩) (hO4.block ab hab3 (fun e => by have := (hge ab e).1; omega))).trans j5
           have H4 := Lib.hid (H3.out.other hO4 (fun k hk => by have := (hge k hk).1; omega) (fun k hk => hk.elim (HR.out.df k) (HR.out.dv k)) (fun k hk e => by have := (hge k hk).1; have := HX.out.1 k e; omega) (fun k hk y hy e => by
             have h1 := hge k hk
             rcases HN3.out.2.2 y hy k e with ⟨y0, h2, h3⟩ | h2
             · have := HX.out.2.1 y0 h2 k h3; omega
             · omega))
           clear hO4 hge))
    all_goals
      clear HRL
      go_wp2_with fail
      go_ret
      exact ⟨rfl, O2, qs3, H4.out⟩

theorem does_any (A : Ac) (hw : A.Wf) {W w : World} {p : Nat} {O : Nat → Nat} {v : Value} {ps : List Nat} {pr : Nat} {bv qv sv : Value} {qs : List Value} {S : Sh} {n : Nat} (h : Both W w p O v ps pr bv qv sv qs S S) (hS : S.Ok n) (hn : n ≤ 10000) (hd : Holds8 W A.dv A.ds) (hdl : A.ds.length ≤ 1000) :
    Calls Try.prog 23 #[ptr p, ptr pr, .agg A.arr] w (DoesOk W p v ps pr bv qv sv (S.act A)) ∧ (S.act A).Ok (n + 1) := by
  have hd2 := hd.below h.m.bel
  unfold Sh.act
  by_cases h0 : A.kind = 0 ∨ A.kind = 1 ∨ A.kind = 2
  · rw [if_pos h0]
    exact ⟨does_offer A h0 h hS hd hdl, off_ok hS _ _ _ _ (by omega)⟩
  · rw [if_neg h0]
    by_cases h3 : A.kind = 3 ∨ A.kind = 4
    · rw [if_pos h3]
      exact ⟨does_release A h3 h hS hn hd2 hw.tick, (hS.rel hw.tick).mono (Nat.le_succ _) (by omega)⟩
    · rw [if_neg h3]
      by_cases h5 : A.kind = 5
      · rw [if_pos h5]
        exact ⟨does_clear A h5 h hS hd2, hS.clear.mono (Nat.le_succ _) (by omega)⟩
      · rw [if_neg h5]
        exact ⟨does_none A (fun j hj e => by
          match j, hj with
          | 0, _ => exact h0 (.inl e)
          | 1, _ => exact h0 (.inr (.inl e))
          | 2, _ => exact h0 (.inr (.inr e))
          | 3, _ => exact h3 (.inl e)
          | 4, _ => exact h3 (.inr e)
          | 5, _ => exact h5 e) h hd2, hS.mono (Nat.le_succ _) (by omega)⟩
end Go.Proofs.Ythipfcmjpgbemaa

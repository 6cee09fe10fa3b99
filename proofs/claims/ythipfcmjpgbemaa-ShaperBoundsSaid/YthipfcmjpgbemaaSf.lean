/- An offer: walked. -/
import Derived.Test.YthipfcmjpgbemaaSe
namespace Go.Proofs.Ythipfcmjpgbemaa
open Go.RowKit

/-- A line behind an offer of an item of a size that may be. -/
def offL (L : Ln) (no : Nat) (sz : Int) (ds : List Nat) : Ln := ⟨L.off + 1, L.drp + (if pushC L.Q sz = 110 then 1 else 0), L.out, L.byt, L.B, pushA L.Q no sz ds⟩

set_option maxRecDepth 100000 in
theorem Offer_nil (c : Int) (no : Nat) (sz : Int) (y : Value) (a : Option Addr) (n m : Nat) (hy : y = .slice a n m) (w : World) :
    Calls Try.prog 11 #[.pointer none, .int .i64 c, .agg #[.int .u64 no, .int .i64 sz, y]] w fun e w' => e = .returned (.int .i64 1) ∧ Below w.heap.size w w' := by
  subst hy
  have hA : Below w.heap.size w (w.alloc (.cells #[.int .u64 no, .int .i64 sz, .slice a n m] 34)) := (Below.refl _ _).alloc (Nat.le_refl _) _
  go_enter Try.func11, Try.ntmps11
  go_wp2_with fail
  refine (line_nil c _).mono ?_
  rintro e w1 ⟨rfl, rfl⟩
  go_wp2_with fail
  go_ret
  exact ⟨rfl, hA⟩

set_option maxRecDepth 100000 in
theorem Offer_ok (no : Nat) (sz : Int) (y : Value) (ds : List Nat) {w : World} {p c n : Nat} {O : Nat → Nat} {v : Value} {ps : List Nat} {S : Sh} {L : Ln} (h : IsS w p O v ps S) (hc : S.ls[c]? = some L) (hL : L.Ok n) (hn : n ≤ 1000000) (hs0 : 0 ≤ sz) (hs1 : sz ≤ 2048)
    (hy : Holds8 w y ds) (hyr : 0 < ds.length → ∀ k, y.ownBlock = some k → O k = 0) (hd : ds.length ≤ 1000000) :
    Calls Try.prog 11 #[ptr p, .int .i64 c, .agg #[.int .u64 no, .int .i64 sz, y]] w fun e w' => e = .returned (.int .i64 (pushC L.Q sz)) ∧ ∃ O', IsS w' p O' v ps { S with ls := S.ls.set c (offL L no sz ds) } ∧ Grow O O' w w' := by
  obtain ⟨ya, yc, ey, _⟩ := id hy
  subst ey
  have hA : Below w.heap.size w (w.alloc (.cells #[.int .u64 no, .int .i64 sz, .slice ya ds.length yc] 34)) := (Below.refl _ _).alloc (Nat.le_refl _) _
  have g := alloc_block_new w (.cells #[.int .u64 no, .int .i64 sz, .slice ya ds.length yc] 34)
  have h1 := h.below hA
  have hcl := (List.getElem?_eq_some_iff.1 hc).1
  obtain ⟨lp, L', bp, qp, r, hla, hlp, hL', hI⟩ := lineAt_some h1 hcl
  rw [hc] at hL'
  injection hL' with hL'
  subst hL'
  have HL := Lib.hid (line_is h1 c)
  rw [hla] at HL
  have hp := lt_of_obj h.blk
  unfold ptr at HL
  unfold ptr
  go_enter Try.func11, Try.ntmps11
  go_upto_region 1 with (fail)
  have hy1 := hy.below hA
  have hxr : 0 < ds.length → ∀ k, (Value.slice ya ds.length yc).ownBlock = some k → r k = 0 := fun h0 k hk => by
    rcases Nat.eq_zero_or_pos (r k) with e | e
    · exact e
    · have := hyr h0 k hk
      have := hI.oq k (by omega)
      omega
  have x1 : (w.alloc (.cells #[.int .u64 no, .int .i64 sz, .slice ya ds.length yc] 34)).cell? ⟨w.heap.size, 1, none⟩ = some (.int .i64 sz) := cell_of_block g 1
  have HA := Lib.hid hA
  have HZ := Lib.hid (And.intro h1 (And.intro hI (And.intro g (And.intro hy1 hxr))))
  clear hy hy1 hxr hyr g hA h1 hI hla
  generalize w.alloc (.cells #[.int .u64 no, .int .i64 sz, .slice ya ds.length yc] 34) = w1 at *
  generalize hbw : w.heap.size = bw at *
  have hpi : ¬ (sz < 0) := by omega
  have hpj : ¬ (2048 < sz) := by omega
  go_wp2_with fail
  refine HL.out.mono ?_
  rintro e w2 ⟨rfl, rfl⟩
  clear HL
  go_wp2_with fail
  refine region_tail 5 (by kernel_rfl) (by kernel_rfl) ?_
  simp only [List.take_succ_cons, List.take_zero, List.drop_succ_cons, List.drop_zero]
  have hD : Below w2.heap.size w2 w2.drew := (Below.refl _ _).drew
  have HZ := Lib.hid (And.intro (HZ.out.1.below hD) (And.intro (HZ.out.2.1.keep (Below.only hD (fun _ => False)) (fun h => h) (fun h => h) (fun _ _ h => h)) (And.intro ((hD.block _ (lt_of_obj HZ.out.2.2.1)).trans HZ.out.2.2.1) (And.intro (HZ.out.2.2.2.1.below hD) HZ.out.2.2.2.2))))
  have HA := Lib.hid (show Below bw w w2.drew from hbw ▸ HA.out.drew)
  clear hD x1
  generalize w2.drew = w2 at *
  have c5 : w2.cell? ⟨lp, 5, none⟩ = some (.pointer (some ⟨qp, 0, none⟩)) := cell_of_block HZ.out.2.1.blk 5
  have x0 : w2.cell? ⟨bw, 0, none⟩ = some (.int .u64 no) := cell_of_block HZ.out.2.2.1 0
  have x1 : w2.cell? ⟨bw, 1, none⟩ = some (.int .i64 sz) := cell_of_block HZ.out.2.2.1 1
  have x2 : w2.cell? ⟨bw, 2, none⟩ = some (.slice ya ds.length yc) := cell_of_block HZ.out.2.2.1 2
  have HPu := Lib.hid (push_any no sz _ ds HZ.out.2.1.q HZ.out.2.2.2.1 HZ.out.2.2.2.2 hd (Nat.le_trans hL.drops hn))
  repeat still_step
  refine wpStill_nil ?_
  go_wp2_with fail
  refine HPu.out.mono ?_
  rintro e w3 ⟨rfl, r', hQ3, hO3, hr3⟩
  clear x0 x1 x2 c5 HPu
  have hrl : ∀ k, O k ≠ 5 + 3 * c → ¬ r k ≠ 0 := fun k hk h => hk (HZ.out.2.1.oq k h)
  have hlb3 := hO3.keep HZ.out.2.1.blk (hrl lp (by rw [HZ.out.2.1.ol]; omega))
  have hbb3 := hO3.keep HZ.out.2.1.b (hrl bp (by rw [HZ.out.2.1.ob]; omega))
  have hlpr : ¬ r lp ≠ 0 := hrl lp (by rw [HZ.out.2.1.ol]; omega)
  have hlb : ¬ bp = lp := fun e => by have h1 := HZ.out.2.1.ol; have h2 := HZ.out.2.1.ob; rw [e] at h2; omega
  have hlw := lt_of_obj HZ.out.2.1.blk
  have hr3l : ∀ k, r' k ≠ 0 → ¬ k = lp := fun k hk e => by
    rcases hr3 k hk with h | h
    · exact hlpr (e ▸ h)
    · omega
  have a0 : w3.cell? ⟨lp, 0, none⟩ = some (.int .u64 L.off) := cell_of_block hlb3 0
  have HA0 := Lib.hid (add_cnt (y := 1) a0 (free_of_block hlb3 0) (by have := hL.off; omega))
  clear a0
  obtain ⟨cd, hcd⟩ : ∃ cd, pushC L.Q sz = cd := ⟨_, rfl⟩
  have HCD : Hid (pushC L.Q sz = cd) := hcd
  rw [hcd]
  have hcd2 : cd = 0 ∨ cd = 110 := by
    rw [← hcd]
    unfold pushC
    rw [if_neg (by omega)]
    split
    · exact .inl rfl
    · exact .inr rfl
  clear hcd
  have hGB : Grow O O w w2 := Grow.below (by rw [hbw]; exact HA.out)
  rcases hcd2 with rfl | rfl
  · go_wp2_with fail
    refine HA0.out.mono ?_
    rintro e w4 ⟨rfl, hw4⟩
    have HW4 := Lib.hid hw4
    clear hw4
    go_wp2_with fail
    go_ret
    refine ⟨by rw [HCD.out]; rfl, ?_⟩
    have hO4 : Only (· = lp) w3 w4 := by rw [HW4.out]; exact Only.setCell (S := (· = lp)) (p := ⟨lp, 0, none⟩) (Only.refl _ _) (fun _ => rfl) _
    have hlb4 : w4.heap[lp]? = some (.cells ((offL L no sz ds).cells bp qp) 88 (0, 0)) := by
      rw [HW4.out, setCell_block hlb3 0]
      unfold offL
      rw [HCD.out]
      rfl
    obtain ⟨O', h1, h2, -⟩ := HZ.out.1.set (L' := offL L no sz ds) hc hlp HZ.out.2.1 ((hO3.mono (fun k _ h => .inr (.inr h))).trans (hO4.mono fun k _ h => .inl h)) hlb4 (hO4.keep hbb3 hlb) (hQ3.keep hO4 hr3l) hr3
    exact ⟨O', h1, hGB.trans h2⟩
  · have hlb3' := hlb3
    go_wp2_with fail
    refine HA0.out.mono ?_
    rintro e w4 ⟨rfl, hw4⟩
    have HW4 := Lib.hid hw4
    clear hw4
    have hO4 : Only (· = lp) w3 w4 := by rw [HW4.out]; exact Only.setCell (S := (· = lp)) (p := ⟨lp, 0, none⟩) (Only.refl _ _) (fun _ => rfl) _
    have hlb4 : w4.heap[lp]? = some (.cells #[.int .u64 ((L.off + 1 : Nat) : Int), .int .u64 L.drp, .int .u64 L.out, .int .u64 L.byt, ptr bp, ptr qp] 88 (0, 0)) := by
      rw [HW4.out, setCell_block hlb3 0]
      rfl
    have a1 : w4.cell? ⟨lp, 1, none⟩ = some (.int .u64 L.drp) := cell_of_block hlb4 1
    have HA1 := Lib.hid (add_cnt (y := 1) a1 (free_of_block hlb4 1) (by have := hL.drp; omega))
    clear a1 HA0
    go_wp2_with fail
    refine HA1.out.mono ?_
    rintro e w5 ⟨rfl, hw5⟩
    have HW5 := Lib.hid hw5
    clear hw5
    go_wp2_with fail
    go_ret
    refine ⟨by rw [HCD.out]; rfl, ?_⟩
    have hO5 : Only (· = lp) w4 w5 := by rw [HW5.out]; exact Only.setCell (S := (· = lp)) (p := ⟨lp, 1, none⟩) (Only.refl _ _) (fun _ => rfl) _
    have hlb5 : w5.heap[lp]? = some (.cells ((offL L no sz ds).cells bp qp) 88 (0, 0)) := by
      rw [HW5.out, setCell_block hlb4 1]
      unfold offL
      rw [HCD.out]
      rfl
    have hO35 := hO4.trans hO5
    obtain ⟨O', h1, h2, -⟩ := HZ.out.1.set (L' := offL L no sz ds) hc hlp HZ.out.2.1 ((hO3.mono (fun k _ h => .inr (.inr h))).trans (hO35.mono fun k _ h => .inl h)) hlb5 (hO35.keep hbb3 hlb) (hQ3.keep hO35 hr3l) hr3
    exact ⟨O', h1, hGB.trans h2⟩

set_option maxRecDepth 100000 in
theorem Offer_bad (no : Nat) (sz : Int) (y : Value) (a : Option Addr) (m q : Nat) (hy : y = .slice a m q) {w : World} {p : Nat} {c : Int} {O : Nat → Nat} {v : Value} {ps : List Nat} {S : Sh} (h : IsS w p O v ps S) (hb : ¬ (0 ≤ c ∧ c < S.ls.length) ∨ sz < 0 ∨ 2048 < sz) :
    Calls Try.prog 11 #[ptr p, .int .i64 c, .agg #[.int .u64 no, .int .i64 sz, y]] w fun e w' => e = .returned (.int .i64 2) ∧ Below w.heap.size w w' := by
  subst hy
  have hA : Below w.heap.size w (w.alloc (.cells #[.int .u64 no, .int .i64 sz, .slice a m q] 34)) := (Below.refl _ _).alloc (Nat.le_refl _) _
  have g := alloc_block_new w (.cells #[.int .u64 no, .int .i64 sz, .slice a m q] 34)
  have h1 := h.below hA
  have x1 : (w.alloc (.cells #[.int .u64 no, .int .i64 sz, .slice a m q] 34)).cell? ⟨w.heap.size, 1, none⟩ = some (.int .i64 sz) := cell_of_block g 1
  have HL := Lib.hid (line_is h1 c)
  have HA := Lib.hid hA
  by_cases hc : 0 ≤ c ∧ c < S.ls.length
  · obtain ⟨n, rfl⟩ := Int.eq_ofNat_of_zero_le hc.1
    obtain ⟨lp, L', bp, qp, r, hla, -, -, -⟩ := lineAt_some h1 (c := n) (by omega)
    rw [hla] at HL
    have hs : sz < 0 ∨ ¬ sz < 0 ∧ 2048 < sz := by omega
    clear h h1 hA g hla hb hc
    unfold ptr at *
    go_enter Try.func11, Try.ntmps11
    go_upto_region 1 with (fail)
    generalize w.alloc (.cells #[.int .u64 no, .int .i64 sz, .slice a m q] 34) = w1 at *
    go_wp2_with fail
    refine HL.out.mono ?_
    rintro e w2 ⟨rfl, rfl⟩
    clear HL
    rcases hs with hs | ⟨hs, hs2⟩
    all_goals
      go_wp2_with fail
      go_ret
      exact ⟨rfl, HA.out⟩
  · rw [lineAt_none h1 hc] at HL
    clear h h1 hA g hb hc
    unfold ptr at *
    go_enter Try.func11, Try.ntmps11
    go_upto_region 1 with (fail)
    generalize w.alloc (.cells #[.int .u64 no, .int .i64 sz, .slice a m q] 34) = w1 at *
    go_wp2_with fail
    refine HL.out.mono ?_
    rintro e w2 ⟨rfl, rfl⟩
    clear HL x1
    go_wp2_with fail
    go_ret
    exact ⟨rfl, HA.out⟩
end Go.Proofs.Ythipfcmjpgbemaa

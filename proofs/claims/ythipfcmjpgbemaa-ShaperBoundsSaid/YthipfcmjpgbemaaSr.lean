/- ShaperNone, walked. -/
import Derived.Test.YthipfcmjpgbemaaSp
import Derived.Test.YthipfcmjpgbemaaSq
namespace Go.Proofs.Ythipfcmjpgbemaa
open Go.RowKit

theorem acs_one (A : Ac) (w : World) (hd : Holds8 w A.dv A.ds) (hw : A.Wf) : IsAcs (w.alloc (.cells A.arr 36)) (.slice (some ⟨w.heap.size, 0, none⟩) 1 1) [A] := by
  have hg := alloc_block_new w (.cells A.arr 36)
  refine ⟨_, 1, rfl, fun _ => ⟨_, 0, rfl, lt_of_obj hg, fun i B hi => ?_⟩⟩
  match i, hi with
  | 0, hi =>
    simp at hi
    subst hi
    exact ⟨cell_of_block hg 0, cell_of_block hg 1, cell_of_block hg 2, cell_of_block hg 3, cell_of_block hg 4, cell_of_block hg 5, hd.below ((Below.refl _ _).alloc (Nat.le_refl _) _), hw⟩

set_option maxRecDepth 100000 in
set_option maxHeartbeats 2000000 in
theorem none_any (A : Ac) (w : World) (hd : Holds8 w A.dv A.ds) (hw : A.Wf) :
    Calls Try.prog 6 #[.agg A.arr] w fun e w' => e = .returned (.bool true) ∧ Below w.heap.size w w' := by
  have hA : Below w.heap.size w (w.alloc (.cells A.arr 36)) := (Below.refl _ _).alloc (Nat.le_refl _) _
  have h0 := alloc_block_new w (.cells A.arr 36)
  have hF := acs_one A _ (hd.below hA) hw
  have hA2 := hA.trans ((Below.refl _ (w.alloc (.cells A.arr 36))).alloc hA.size (.cells A.arr 36))
  have h02 := (alloc_block_old (.cells A.arr 36) (lt_of_obj h0)).trans h0
  obtain ⟨kind, cls, no, size, dv, ds, tick⟩ := A
  obtain ⟨ya, yc, ey, _⟩ := id hd
  have ey : dv = .slice ya ds.length yc := ey
  subst ey
  rw [alloc_size] at hF
  have HF := Lib.hid hF
  have HA := Lib.hid (And.intro hA2 h02)
  clear hA h0 hF hA2 h02
  unfold Ac.arr at *
  dsimp only at *
  generalize hys : ds.length = yl at *
  go_enter Try.func6, Try.ntmps6
  go_wp2_with fail
  obtain ⟨g, hg⟩ : ∃ g, w.heap.size = g := ⟨_, rfl⟩
  have HW : Hid (w.heap.size = g) := hg
  rw [hg] at HF HA
  rw [hg]
  clear hg
  generalize (w.alloc (.cells #[.int .i64 kind, .int .i64 cls, .int .u64 no, .int .i64 size, .slice ya yl yc, .int .u64 tick] 36)).alloc (.cells #[.int .i64 kind, .int .i64 cls, .int .u64 no, .int .i64 size, .slice ya yl yc, .int .u64 tick] 36) = wa at *
  refine (few_any _ _ 1 (by decide) _ HF.out).mono ?_
  rintro e w1 ⟨b, rfl, rfl, -, -⟩
  have HA := Lib.hid HA.out
  clear HF hw hd
  cases b
  · go_wp2_with fail
    refine (works_any _).mono ?_
    rintro e w2 ⟨rfl, hB2⟩
    go_wp2_with fail
    go_ret
    refine ⟨rfl, ?_⟩
    rw [HW.out]
    exact HA.out.1.trans (hB2.mono (HW.out ▸ HA.out.1.size))
  · go_wp2_with fail
    refine (Next_nil _).mono ?_
    rintro e w2 ⟨rfl, rfl⟩
    have q0 := cell_of_block HA.out.2 0
    have q1 := cell_of_block HA.out.2 1
    have q2 := cell_of_block HA.out.2 2
    have q3 := cell_of_block HA.out.2 3
    have q4 := cell_of_block HA.out.2 4
    have q5 := cell_of_block HA.out.2 5
    dsimp at q0 q1 q2 q3 q4 q5
    go_wp2_with fail
    refine (Offer_nil cls no size (.slice ya yl yc) ya yl yc rfl _).mono ?_
    rintro e w3 ⟨rfl, hB3⟩
    have h3 := (hB3.block g (lt_of_obj HA.out.2)).trans HA.out.2
    have HA3 := Lib.hid (And.intro (HA.out.1.trans (hB3.mono (HW.out ▸ HA.out.1.size))) h3)
    clear hB3 h3 q0 q1 q2 q3 q4 q5 HA
    have q0 := cell_of_block HA3.out.2 0
    have q1 := cell_of_block HA3.out.2 1
    have q2 := cell_of_block HA3.out.2 2
    have q3 := cell_of_block HA3.out.2 3
    have q4 := cell_of_block HA3.out.2 4
    have q5 := cell_of_block HA3.out.2 5
    dsimp at q0 q1 q2 q3 q4 q5
    go_wp2_with fail
    refine (Release_nil tick _).mono ?_
    rintro e w4 ⟨rfl, rfl⟩
    go_wp2_with fail
    refine (Tick_nil _).mono ?_
    rintro e w4 ⟨rfl, rfl⟩
    go_wp2_with fail
    refine (Stat_nil cls _).mono ?_
    rintro e w5 ⟨rfl, hB5⟩
    have h5 := (hB5.block g (lt_of_obj HA3.out.2)).trans HA3.out.2
    have HA5 := Lib.hid (And.intro (HA3.out.1.trans (hB5.mono (HW.out ▸ HA3.out.1.size))) h5)
    clear hB5 h5 q0 q1 q2 q3 q4 q5 HA3
    have q0 := cell_of_block HA5.out.2 0
    have q1 := cell_of_block HA5.out.2 1
    have q2 := cell_of_block HA5.out.2 2
    have q3 := cell_of_block HA5.out.2 3
    have q4 := cell_of_block HA5.out.2 4
    have q5 := cell_of_block HA5.out.2 5
    dsimp at q0 q1 q2 q3 q4 q5
    unfold statArr
    go_wp2_with fail
    refine (Queued_nil cls _).mono ?_
    rintro e w6 ⟨rfl, rfl⟩
    go_wp2_with fail
    refine (Clear_nil _).mono ?_
    rintro e w6 ⟨rfl, rfl⟩
    go_wp2_with fail
    refine (works_any _).mono ?_
    rintro e w7 ⟨rfl, hB7⟩
    go_wp2_with fail
    go_ret
    refine ⟨rfl, ?_⟩
    rw [HW.out]
    exact HA5.out.1.trans (hB7.mono (HW.out ▸ HA5.out.1.size))
end Go.Proofs.Ythipfcmjpgbemaa

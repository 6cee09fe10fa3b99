/- DiskNone, walked. -/
import Derived.Test.YtbgjahgmkbbgjaaDf
namespace Go.Proofs.Ytbgjahgmkbbgjaa
open Go.RowKit

theorem same_nn (w : World) :
    Calls Try.prog 19 #[.pointer none, .pointer none] w fun e w' => e = .returned (.bool true) ∧ w' = w := by
  go_enter Try.func19, Try.ntmps19
  go_wp2_with fail
  go_ret
  exact ⟨rfl, rfl⟩
theorem same_np (p : Nat) (w : World) :
    Calls Try.prog 19 #[.pointer none, .pointer (some ⟨p, 0, none⟩)] w fun e w' => e = .returned (.bool false) ∧ w' = w := by
  have hq : ∀ w, (binOp .eql 27 (.pointer none) (.pointer (some ⟨p, 0, none⟩))).run Try.prog w = .ok (.bool false) w := fun w => by rfl
  go_enter Try.func19, Try.ntmps19
  go_wp2_with fail
  go_ret
  exact ⟨rfl, rfl⟩
theorem same_pn (p : Nat) (w : World) :
    Calls Try.prog 19 #[.pointer (some ⟨p, 0, none⟩), .pointer none] w fun e w' => e = .returned (.bool false) ∧ w' = w := by
  go_enter Try.func19, Try.ntmps19
  go_wp2_with fail
  go_ret
  exact ⟨rfl, rfl⟩

theorem acts_new (A : Act1) (w : World) (h1 : Holds8 w A.dv A.ds) (h2 : Fates w A.fv A.fs) : IsActs (w.alloc (.cells #[.int .i64 A.kind, .int .i64 A.at_, A.dv, A.fv] 33)) (.slice (some ⟨w.heap.size, 0, none⟩) 1 1) [A] := by
  have hB : Below w.heap.size w (w.alloc (.cells #[.int .i64 A.kind, .int .i64 A.at_, A.dv, A.fv] 33)) := (Below.refl _ _).alloc (Nat.le_refl _) _
  refine ⟨_, 1, rfl, fun _ => ⟨_, 0, rfl, by simp, fun i B hi => ?_⟩⟩
  have hj0 : i = 0 := by have := (List.getElem?_eq_some_iff.1 hi).1; simp at this; exact this
  subst hj0
  simp at hi
  subst hi
  exact ⟨cell_of_block (alloc_block_new w _) 0, cell_of_block (alloc_block_new w _) 1, cell_of_block (alloc_block_new w _) 2, cell_of_block (alloc_block_new w _) 3, h1.below hB, h2.below hB⟩

set_option maxRecDepth 100000 in
set_option maxHeartbeats 1000000 in
theorem none_any (A : Act1) (n : Int) (w : World) (h1 : Holds8 w A.dv A.ds) (h2 : Fates w A.fv A.fs) :
    Calls Try.prog 4 #[.agg #[.int .i64 A.kind, .int .i64 A.at_, A.dv, A.fv], .int .i64 n] w fun e w' => e = .returned (.bool true) ∧ Below w.heap.size w w' := by
  obtain ⟨da, dc, ed, _⟩ := id h1
  obtain ⟨fa, fc, ef, _⟩ := id h2
  have HA : Hid (∀ (x : World) (g : Nat), g = x.heap.size → Below w.heap.size w x → IsActs (x.alloc (.cells #[.int .i64 A.kind, .int .i64 A.at_, .slice da A.ds.length dc, .slice fa A.fs.length fc] 33)) (.slice (some ⟨g, 0, none⟩) 1 1) [A]) := by
    intro x g hg hx
    rw [← ed, ← ef, hg]
    exact acts_new A x (h1.below hx) (h2.below hx)
  rw [ed, ef]
  generalize hk : A.kind = kd at *
  generalize ha : A.at_ = at_ at *
  generalize A.ds.length = dl at *
  generalize A.fs.length = fl at *
  clear h1 h2 ed ef hk ha
  go_enter Try.func4, Try.ntmps4
  go_wp2_with fail
  refine (few_any _ [A] _ ?_).mono ?_
  · exact HA.out _ _ (by simp) ((Below.refl _ _).alloc (Nat.le_refl _) _)
  rintro e w' ⟨b, rfl, rfl, _⟩
  have hB0 : ∀ x y o1 o2, Below w.heap.size w ((w.alloc (.cells x o1)).alloc (.cells y o2)) := fun x y o1 o2 => ((Below.refl _ _).alloc (Nat.le_refl _) _).alloc (by simp) _
  have HB0 := Lib.hid hB0
  clear hB0
  cases b with
  | false =>
    go_wp2_with fail
    refine (works_any _).mono ?_
    rintro e w' ⟨rfl, hB⟩
    go_wp2_with fail
    go_ret
    exact ⟨rfl, (HB0.out _ _ _ _).trans (hB.mono (HB0.out _ _ _ _).size)⟩
  | true =>
    by_cases hn0 : n < 0
    · go_wp2_with fail
      refine (works_any _).mono ?_
      rintro e w' ⟨rfl, hB⟩
      go_wp2_with fail
      go_ret
      exact ⟨rfl, (HB0.out _ _ _ _).trans (hB.mono (HB0.out _ _ _ _).size)⟩
    · by_cases hn3 : 300 < n
      · go_wp2_with fail
        refine (works_any _).mono ?_
        rintro e w' ⟨rfl, hB⟩
        go_wp2_with fail
        go_ret
        exact ⟨rfl, (HB0.out _ _ _ _).trans (hB.mono (HB0.out _ _ _ _).size)⟩
      · obtain ⟨n, rfl⟩ := Int.eq_ofNat_of_zero_le (show 0 ≤ n by omega)
        have hn : n ≤ 65536 := by omega
        go_wp2_with fail
        refine (now_nil _ _ _).mono ?_
        rintro e w' ⟨rfl, rfl⟩
        go_wp2_with fail
        refine (dur_nil _ _ _).mono ?_
        rintro e w' ⟨rfl, rfl⟩
        go_wp2_with fail
        refine (new_d n hn _).mono ?_
        rintro e w1 ⟨p, r, rfl, _, hO1, _⟩
        have hB1 := (HB0.out _ _ _ _).trans (hO1.below (HB0.out _ _ _ _).size (fun _ _ h => h))
        have hbox : w1.heap[w.heap.size]? = some (.cells #[.int .i64 kd, .int .i64 at_, .slice da dl dc, .slice fa fl fc] 33 (0, 0)) := hO1.keep ((alloc_block_old _ (by simp)).trans (alloc_block_new w _)) (fun h => h)
        have b1 : w1.cell? ⟨w.heap.size, 1, none⟩ = _ := cell_of_block hbox 1
        have b2 : w1.cell? ⟨w.heap.size, 2, none⟩ = _ := cell_of_block hbox 2
        have b3 : w1.cell? ⟨w.heap.size, 3, none⟩ = _ := cell_of_block hbox 3
        dsimp at b1 b2 b3
        have HB1 := Lib.hid hB1
        clear hbox hB1 hO1
        go_wp2_with (first
          | (go_at_call 18; refine (size_nil _).mono ?_; rintro e w' ⟨rfl, rfl⟩)
          | (go_at_call 13; refine (write_nil _ _ _).mono ?_; rintro e w' ⟨rfl, rfl⟩)
          | (go_at_call 10; refine (sync_nil _).mono ?_; rintro e w' ⟨rfl, rfl⟩)
          | (go_at_call 16; refine (unsynced_nil _).mono ?_; rintro e w' ⟨rfl, rfl⟩)
          | (go_at_call 11; refine (crash_nil _ _).mono ?_; rintro e w' ⟨rfl, rfl⟩)
          | (go_at_call 17; refine (copy_nil _).mono ?_; rintro e w' ⟨rfl, rfl⟩)
          | (go_at_call 19; first | ((with_reducible refine (same_nn _).mono ?_); rintro e w' ⟨rfl, rfl⟩) | ((with_reducible refine (same_np _ _).mono ?_); rintro e w' ⟨rfl, rfl⟩) | ((with_reducible refine (same_pn _ _).mono ?_); rintro e w' ⟨rfl, rfl⟩)))
        refine (works_any _).mono ?_
        rintro e w' ⟨rfl, hB⟩
        go_wp2_with fail
        go_ret
        exact ⟨rfl, HB1.out.trans (hB.mono HB1.out.size)⟩
end Go.Proofs.Ytbgjahgmkbbgjaa

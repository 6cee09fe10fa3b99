/- The bucket's functions in the forms that a caller wants; the chapter's examples. -/
import Derived.Test.YtkghnapodbodkaaBw3
namespace Go.Proofs.Ytkghnapodbodkaa
open Go.RowKit

/-- The block p is the bucket B. -/
def IsB (w : World) (p : Nat) (B : Bk) : Prop := w.heap[p]? = some (.cells B.cells 47)

theorem IsB.lt {w : World} {p : Nat} {B : Bk} (h : IsB w p B) : p < w.heap.size := lt_of_obj h
theorem IsB.keep {w w' : World} {p : Nat} {B : Bk} {S : Nat → Prop} (h : IsB w p B) (hO : Only S w w') (hS : ¬ S p) : IsB w' p B := hO.keep h hS

theorem new_is (r b t : Nat) (w : World) :
    Calls Try.prog 9 #[.int .u64 r, .int .u64 b, .int .u64 t] w fun e w' =>
      ∃ p, e = .returned (.pointer (some ⟨p, 0, none⟩)) ∧ w.heap.size ≤ p ∧ IsB w' p ⟨r, b, t, b⟩ ∧ Only (fun _ => False) w w' :=
  (new_any r b t w).mono fun e w' ⟨he, hw⟩ => ⟨_, he, Nat.le_refl _, by rw [hw]; exact alloc_block_new _ _, by rw [hw]; exact (Only.refl _ _).alloc _⟩

theorem take_is {B B' : Bk} {c : Bool} (p t n : Nat) (w : World) (hB : IsB w p B) (hk : B.Ok) (ht : t < 18446744073709551616) (hc : B.can t n = c) (hB' : B.take t n = B') :
    Calls Try.prog 10 #[.pointer (some ⟨p, 0, none⟩), .int .u64 t, .int .u64 n] w fun e w' =>
      e = .returned (.bool c) ∧ IsB w' p B' ∧ Only (· = p) w w' := by
  subst hc hB'
  exact take_any p B t n w hB hk ht

theorem level_is {B B' : Bk} {n : Nat} (p t : Nat) (w : World) (hB : IsB w p B) (hk : B.Ok) (ht : t < 18446744073709551616) (hB' : B.fill t = B') (hn : B'.tok = n) :
    Calls Try.prog 11 #[.pointer (some ⟨p, 0, none⟩), .int .u64 t] w fun e w' =>
      e = .returned (.int .u64 n) ∧ IsB w' p B' ∧ Only (· = p) w w' := by
  subst hn hB'
  exact level_any p B t w hB hk ht

theorem when_is {B : Bk} {a : Nat} {c : Bool} (p n : Nat) (w : World) (hB : IsB w p B) (hk : B.Ok) (hw : B.when n = (a, c)) :
    Calls Try.prog 16 #[.pointer (some ⟨p, 0, none⟩), .int .u64 n] w fun e w' =>
      e = .returned (.tuple #[.int .u64 a, .bool c]) ∧ IsB w' p B ∧ Only (fun _ => False) w w' := by
  have h := when_any p B n w hB hk
  rw [hw] at h
  exact h.mono fun e w' ⟨he, hO⟩ => ⟨he, hB.keep hO (fun h => h), hO⟩

theorem works_any (w : World) : Calls Try.prog 8 #[] w fun e w' => e = .returned (.bool true) ∧ Only (fun _ => False) w w' := by
  go_enter Try.func8, Try.ntmps8
  go_wp2_with fail
  refine (new_is 3 10 5 _).mono ?_
  rintro e w1 ⟨p, rfl, hp, hB1, hO1⟩
  go_wp2_with fail
  refine (take_is (c := true) (B' := ⟨3, 10, 5, 2⟩) p 5 8 _ hB1 ⟨by decide, by decide, by decide, by decide⟩ (by decide) (by decide) (by rfl)).mono ?_
  rintro e w2 ⟨rfl, hB2, hO2⟩
  go_wp2_with fail
  refine (level_is (n := 5) (B' := ⟨3, 10, 6, 5⟩) p 6 _ hB2 ⟨by decide, by decide, by decide, by decide⟩ (by decide) (by rfl) (by rfl)).mono ?_
  rintro e w3 ⟨rfl, hB3, hO3⟩
  go_wp2_with fail
  refine (take_is (c := false) (B' := ⟨3, 10, 6, 5⟩) p 6 6 _ hB3 ⟨by decide, by decide, by decide, by decide⟩ (by decide) (by decide) (by rfl)).mono ?_
  rintro e w4 ⟨rfl, hB4, hO4⟩
  go_wp2_with fail
  refine (when_is (a := 7) (c := true) p 6 _ hB4 ⟨by decide, by decide, by decide, by decide⟩ (by rfl)).mono ?_
  rintro e w5 ⟨rfl, hB5, hO5⟩
  go_wp2_with fail
  refine (take_is (c := true) (B' := ⟨3, 10, 7, 2⟩) p 7 6 _ hB5 ⟨by decide, by decide, by decide, by decide⟩ (by decide) (by decide) (by rfl)).mono ?_
  rintro e w6 ⟨rfl, hB6, hO6⟩
  go_wp2_with fail
  refine (level_is (n := 2) (B' := ⟨3, 10, 7, 2⟩) p 4 _ hB6 ⟨by decide, by decide, by decide, by decide⟩ (by decide) (by rfl) (by rfl)).mono ?_
  rintro e w7 ⟨rfl, hB7, hO7⟩
  go_wp2_with fail
  refine (level_is (n := 10) (B' := ⟨3, 10, 100, 10⟩) p 100 _ hB7 ⟨by decide, by decide, by decide, by decide⟩ (by decide) (by rfl) (by rfl)).mono ?_
  rintro e w8 ⟨rfl, hB8, hO8⟩
  go_wp2
  go_ret
  refine ⟨rfl, ?_⟩
  have hS : ∀ k, k < w.heap.size → ¬ k = p := fun k hk e => by omega
  have g : ∀ {a b : World}, Only (· = p) a b → Only (fun k => w.heap.size ≤ k) a b := fun h => h.mono fun k _ e => by omega
  have g' : ∀ {a b : World}, Only (fun _ => False) a b → Only (fun k => w.heap.size ≤ k) a b := fun h => h.mono fun k _ e => e.elim
  exact (((((((g' hO1).trans (g hO2)).trans (g hO3)).trans (g hO4)).trans (g' hO5)).trans (g hO6)).trans (g hO7)).trans (g hO8) |>.mono fun k hk e => by omega

theorem level_nil (t : Int) (w : World) :
    Calls Try.prog 11 #[.pointer none, .int .u64 t] w fun e w' => e = .returned (.int .u64 0) ∧ w' = w := by
  go_enter Try.func11, Try.ntmps11
  go_wp2
  go_ret
  exact ⟨rfl, rfl⟩
theorem take_nil (t n : Int) (w : World) :
    Calls Try.prog 10 #[.pointer none, .int .u64 t, .int .u64 n] w fun e w' => e = .returned (.bool false) ∧ w' = w := by
  go_enter Try.func10, Try.ntmps10
  go_wp2
  go_ret
  exact ⟨rfl, rfl⟩
theorem when_nil (n : Int) (w : World) :
    Calls Try.prog 16 #[.pointer none, .int .u64 n] w fun e w' => e = .returned (.tuple #[.int .u64 0, .bool false]) ∧ w' = w := by
  go_enter Try.func16, Try.ntmps16
  go_wp2
  go_ret2
  exact ⟨rfl, rfl⟩
theorem copy_nil (w : World) :
    Calls Try.prog 13 #[.pointer none] w fun e w' => e = .returned (.pointer none) ∧ w' = w := by
  go_enter Try.func13, Try.ntmps13
  go_wp2
  go_ret
  exact ⟨rfl, rfl⟩
theorem tick_nil (w : World) :
    Calls Try.prog 15 #[.pointer none] w fun e w' => e = .returned (.int .u64 0) ∧ w' = w := by
  go_enter Try.func15, Try.ntmps15
  go_wp2
  go_ret
  exact ⟨rfl, rfl⟩

theorem none_any (t n : Int) (w : World) :
    Calls Try.prog 6 #[.int .u64 t, .int .u64 n] w fun e w' => e = .returned (.bool true) ∧ Only (fun _ => False) w w' := by
  go_enter Try.func6, Try.ntmps6
  go_wp2_with (first
    | (go_at_call 16; refine (when_nil _ _).mono ?_; rintro e w' ⟨rfl, rfl⟩)
    | (go_at_call 11; refine (level_nil _ _).mono ?_; rintro e w' ⟨rfl, rfl⟩)
    | (go_at_call 10; refine (take_nil _ _ _).mono ?_; rintro e w' ⟨rfl, rfl⟩)
    | (go_at_call 13; refine (copy_nil _).mono ?_; rintro e w' ⟨rfl, rfl⟩)
    | (go_at_call 15; refine (tick_nil _).mono ?_; rintro e w' ⟨rfl, rfl⟩)
    | (go_at_call 8; refine (works_any _).mono ?_; rintro e w' ⟨rfl, hO⟩))
  go_ret
  exact ⟨rfl, hO⟩
end Go.Proofs.Ytkghnapodbodkaa

/- The bucket's functions in the forms that a caller wants; the chapter's examples. -/
import Derived.Test.YthipfcmjpgbemaaBw3
namespace Go.Proofs.Ythipfcmjpgbemaa
open Go.RowKit

/-- The block p is the bucket B. -/
def IsB (w : World) (p : Nat) (B : Bk) : Prop := w.heap[p]? = some (.cells B.cells 122)

theorem IsB.lt {w : World} {p : Nat} {B : Bk} (h : IsB w p B) : p < w.heap.size := lt_of_obj h
theorem IsB.keep {w w' : World} {p : Nat} {B : Bk} {S : Nat → Prop} (h : IsB w p B) (hO : Only S w w') (hS : ¬ S p) : IsB w' p B := hO.keep h hS

theorem bnew_is (r b t : Nat) (w : World) :
    Calls Try.prog 27 #[.int .u64 r, .int .u64 b, .int .u64 t] w fun e w' =>
      ∃ p, e = .returned (.pointer (some ⟨p, 0, none⟩)) ∧ w.heap.size ≤ p ∧ IsB w' p ⟨r, b, t, b⟩ ∧ Only (fun _ => False) w w' :=
  (new_any r b t w).mono fun e w' ⟨he, hw⟩ => ⟨_, he, Nat.le_refl _, by rw [hw]; exact alloc_block_new _ _, by rw [hw]; exact (Only.refl _ _).alloc _⟩

theorem take_is {B B' : Bk} {c : Bool} (p t n : Nat) (w : World) (hB : IsB w p B) (hk : B.Ok) (ht : t < 18446744073709551616) (hc : B.can t n = c) (hB' : B.take t n = B') :
    Calls Try.prog 55 #[.pointer (some ⟨p, 0, none⟩), .int .u64 t, .int .u64 n] w fun e w' =>
      e = .returned (.bool c) ∧ IsB w' p B' ∧ Only (· = p) w w' := by
  subst hc hB'
  exact take_any p B t n w hB hk ht

theorem level_is {B B' : Bk} {n : Nat} (p t : Nat) (w : World) (hB : IsB w p B) (hk : B.Ok) (ht : t < 18446744073709551616) (hB' : B.fill t = B') (hn : B'.tok = n) :
    Calls Try.prog 66 #[.pointer (some ⟨p, 0, none⟩), .int .u64 t] w fun e w' =>
      e = .returned (.int .u64 n) ∧ IsB w' p B' ∧ Only (· = p) w w' := by
  subst hn hB'
  exact level_any p B t w hB hk ht

theorem when_is {B : Bk} {a : Nat} {c : Bool} (p n : Nat) (w : World) (hB : IsB w p B) (hk : B.Ok) (hw : B.when n = (a, c)) :
    Calls Try.prog 53 #[.pointer (some ⟨p, 0, none⟩), .int .u64 n] w fun e w' =>
      e = .returned (.tuple #[.int .u64 a, .bool c]) ∧ IsB w' p B ∧ Only (fun _ => False) w w' := by
  have h := when_any p B n w hB hk
  rw [hw] at h
  exact h.mono fun e w' ⟨he, hO⟩ => ⟨he, hB.keep hO (fun h => h), hO⟩

theorem level_nil (t : Int) (w : World) :
    Calls Try.prog 66 #[.pointer none, .int .u64 t] w fun e w' => e = .returned (.int .u64 0) ∧ w' = w := by
  go_enter Try.func66, Try.ntmps66
  go_wp2
  go_ret
  exact ⟨rfl, rfl⟩
theorem take_nil (t n : Int) (w : World) :
    Calls Try.prog 55 #[.pointer none, .int .u64 t, .int .u64 n] w fun e w' => e = .returned (.bool false) ∧ w' = w := by
  go_enter Try.func55, Try.ntmps55
  go_wp2
  go_ret
  exact ⟨rfl, rfl⟩
theorem when_nil (n : Int) (w : World) :
    Calls Try.prog 53 #[.pointer none, .int .u64 n] w fun e w' => e = .returned (.tuple #[.int .u64 0, .bool false]) ∧ w' = w := by
  go_enter Try.func53, Try.ntmps53
  go_wp2
  go_ret2
  exact ⟨rfl, rfl⟩
end Go.Proofs.Ythipfcmjpgbemaa

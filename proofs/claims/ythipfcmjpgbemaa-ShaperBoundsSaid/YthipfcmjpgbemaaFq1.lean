/- A queue as it lies in memory; the small functions, walked. -/
import Derived.Test.YthipfcmjpgbemaaCopy8
import Derived.Test.YthipfcmjpgbemaaStep
import Derived.Deep.QuietTactic
import Derived.BigQuiet
import Derived.IntWalk
namespace Go.Proofs.Ythipfcmjpgbemaa
open Go.RowKit

/-- An item. -/
structure It where
  no : Nat
  size : Nat
  data : List Nat

/-- A queue: items, bounds, drops. -/
structure QS where
  L : List It
  items : Nat
  bound : Nat
  drops : Nat

/-- The size of all items. -/
def sumQ (L : List It) : Nat := (L.map It.size).sum

/-- An item's three cells, from a place on; F: the blocks of its bytes. -/
structure ItAt (w : World) (F : Nat → Prop) (xs : List Value) (j : Nat) (x : It) (y : Value) : Prop where
  c0 : xs[j]? = some (.int .u64 x.no)
  c1 : xs[j + 1]? = some (.int .i64 x.size)
  c2 : xs[j + 2]? = some y
  d : Own8 w 0 y x.data
  f : ∀ k, y.ownBlock = some k → F k

/-- The items in a ring of n places, from place f on. -/
def RCells (w : World) (F : Nat → Prop) (f n : Nat) (xs : List Value) (L : List It) : Prop := ∀ i x, L[i]? = some x → ∃ y, ItAt w F xs ((f + i) % n * 3) x y

/-- Roles: 1 the queue's own block, 2 its ring, 3 the items' bytes; 0: not the queue's. -/
structure IsQ (w : World) (p : Nat) (r : Nat → Nat) (Q : QS) (rv : Value) (f n : Nat) (xs : List Value) : Prop where
  blk : w.heap[p]? = some (.cells #[rv, .int .i64 f, .int .i64 Q.L.length, .int .i64 (sumQ Q.L), .int .i64 Q.items, .int .i64 Q.bound, .int .u64 Q.drops] 120 (0, 0))
  ring : w.ownsRow 0 34 3 rv n xs
  rc : RCells w (fun k => r k = 3) f n xs Q.L
  from_ : f < n ∨ (n = 0 ∧ f = 0)
  room : Q.L.length ≤ n
  cap : n ≤ 200000
  few : Q.L.length ≤ Q.items
  items : Q.items ≤ 65536
  sum : sumQ Q.L ≤ Q.bound
  bound : Q.bound ≤ 9223372036854775807
  data : ∀ x ∈ Q.L, x.data.length ≤ 1000000
  rp : r p = 1
  rr : ∀ k, rv.ownBlock = some k → r k = 2
  lt : ∀ k, r k ≠ 0 → k < w.heap.size

theorem ItAt.keep {w w' : World} {F S : Nat → Prop} {xs : List Value} {j : Nat} {x : It} {y : Value} (h : ItAt w F xs j x y) (hO : Only S w w') (hS : ∀ k, F k → ¬ S k) : ItAt w' F xs j x y :=
  ⟨h.c0, h.c1, h.c2, own_only h.d hO (fun k hk => hS k (h.f k hk)), h.f⟩
theorem RCells.keep {w w' : World} {F S : Nat → Prop} {f n : Nat} {xs : List Value} {L : List It} (h : RCells w F f n xs L) (hO : Only S w w') (hS : ∀ k, F k → ¬ S k) : RCells w' F f n xs L := fun i x hx =>
  let ⟨y, hy⟩ := h i x hx
  ⟨y, hy.keep hO hS⟩

theorem IsQ.keep {w w' : World} {p : Nat} {r : Nat → Nat} {Q : QS} {rv : Value} {f n : Nat} {xs : List Value} (h : IsQ w p r Q rv f n xs) {S : Nat → Prop} (hO : Only S w w') (hS : ∀ k, r k ≠ 0 → ¬ S k) : IsQ w' p r Q rv f n xs :=
  ⟨hO.keep h.blk (hS p (by rw [h.rp]; decide)), own_only h.ring hO (fun k hk => hS k (by rw [h.rr k hk]; decide)), h.rc.keep hO (fun k hk => hS k (by rw [hk]; decide)), h.from_, h.room, h.cap, h.few, h.items, h.sum, h.bound, h.data, h.rp, h.rr, fun k hk => Nat.lt_of_lt_of_le (h.lt k hk) hO.size⟩
theorem IsQ.below {w w' : World} {p : Nat} {r : Nat → Nat} {Q : QS} {rv : Value} {f n : Nat} {xs : List Value} (h : IsQ w p r Q rv f n xs) (hB : Below w.heap.size w w') : IsQ w' p r Q rv f n xs := h.keep (Below.only hB (fun _ => False)) (fun _ _ h => h)

theorem IsQ.c0 {w : World} {p : Nat} {r : Nat → Nat} {Q : QS} {rv : Value} {f n : Nat} {xs : List Value} (h : IsQ w p r Q rv f n xs) : w.cell? ⟨p, 0, none⟩ = some rv := cell_of_block h.blk 0
theorem IsQ.c1 {w : World} {p : Nat} {r : Nat → Nat} {Q : QS} {rv : Value} {f n : Nat} {xs : List Value} (h : IsQ w p r Q rv f n xs) : w.cell? ⟨p, 1, none⟩ = some (.int .i64 f) := cell_of_block h.blk 1
theorem IsQ.c2 {w : World} {p : Nat} {r : Nat → Nat} {Q : QS} {rv : Value} {f n : Nat} {xs : List Value} (h : IsQ w p r Q rv f n xs) : w.cell? ⟨p, 2, none⟩ = some (.int .i64 Q.L.length) := cell_of_block h.blk 2
theorem IsQ.c3 {w : World} {p : Nat} {r : Nat → Nat} {Q : QS} {rv : Value} {f n : Nat} {xs : List Value} (h : IsQ w p r Q rv f n xs) : w.cell? ⟨p, 3, none⟩ = some (.int .i64 (sumQ Q.L)) := cell_of_block h.blk 3
theorem IsQ.c4 {w : World} {p : Nat} {r : Nat → Nat} {Q : QS} {rv : Value} {f n : Nat} {xs : List Value} (h : IsQ w p r Q rv f n xs) : w.cell? ⟨p, 4, none⟩ = some (.int .i64 Q.items) := cell_of_block h.blk 4
theorem IsQ.c5 {w : World} {p : Nat} {r : Nat → Nat} {Q : QS} {rv : Value} {f n : Nat} {xs : List Value} (h : IsQ w p r Q rv f n xs) : w.cell? ⟨p, 5, none⟩ = some (.int .i64 Q.bound) := cell_of_block h.blk 5
theorem IsQ.c6 {w : World} {p : Nat} {r : Nat → Nat} {Q : QS} {rv : Value} {f n : Nat} {xs : List Value} (h : IsQ w p r Q rv f n xs) : w.cell? ⟨p, 6, none⟩ = some (.int .u64 Q.drops) := cell_of_block h.blk 6
theorem IsQ.fr {w : World} {p : Nat} {r : Nat → Nat} {Q : QS} {rv : Value} {f n : Nat} {xs : List Value} (h : IsQ w p r Q rv f n xs) (i : Nat) : w.frozen? ⟨p, i, none⟩ = false := free_of_block h.blk i

theorem len_nil (w : World) : Calls Try.prog 63 #[.pointer none] w fun e w' => e = .returned (.int .i64 0) ∧ w' = w := by
  go_enter Try.func63, Try.ntmps63
  go_wp2_with fail
  go_ret
  exact ⟨rfl, rfl⟩
theorem len_is {w : World} {p : Nat} {r : Nat → Nat} {Q : QS} {rv : Value} {f n : Nat} {xs : List Value} (h : IsQ w p r Q rv f n xs) : Calls Try.prog 63 #[.pointer (some ⟨p, 0, none⟩)] w fun e w' => e = .returned (.int .i64 Q.L.length) ∧ w' = w := by
  have c := h.c2
  clear h
  go_enter Try.func63, Try.ntmps63
  go_wp2_with fail
  go_ret
  exact ⟨rfl, rfl⟩
theorem room_nil (s : Int) (w : World) : Calls Try.prog 46 #[.pointer none, .int .i64 s] w fun e w' => e = .returned (.bool false) ∧ ∃ n, w' = w.drewN n := by
  go_enter Try.func46, Try.ntmps46
  go_wp2_with fail
  go_quiet (fail)
  go_wp2_with fail
  go_ret
  exact ⟨rfl, _, rfl⟩

/-- Is there room? -/
def roomB (Q : QS) (s : Int) : Bool := decide (0 ≤ s ∧ Q.L.length < Q.items ∧ s ≤ (Q.bound : Int) - (sumQ Q.L : Int))

theorem room_is (s : Int) {w : World} {p : Nat} {r : Nat → Nat} {Q : QS} {rv : Value} {f n : Nat} {xs : List Value} (h : IsQ w p r Q rv f n xs) :
    Calls Try.prog 46 #[.pointer (some ⟨p, 0, none⟩), .int .i64 s] w fun e w' => e = .returned (.bool (roomB Q s)) ∧ ∃ n, w' = w.drewN n := by
  have c2 := h.c2
  have c3 := h.c3
  have c4 := h.c4
  have c5 := h.c5
  have hs := h.sum
  have hb := h.bound
  have hi := h.items
  have hf := h.few
  unfold roomB
  clear h
  generalize Q.L.length = many at *
  generalize sumQ Q.L = sum at *
  generalize Q.items = items at *
  generalize Q.bound = bound at *
  have i1 : IntKind.i64.wrap ((bound : Int) - (sum : Int)) = (bound : Int) - (sum : Int) := IntWalk.i64_in _ (by omega)
  by_cases h0 : 0 ≤ s
  · by_cases h1 : many < items
    · by_cases h2 : s ≤ (bound : Int) - (sum : Int)
      · rw [decide_eq_true ⟨h0, h1, h2⟩]
        have j1 : (many : Int) < (items : Int) := by omega
        go_enter Try.func46, Try.ntmps46
        go_wp2_with fail
        go_quiet (fail)
        go_wp2_with fail
        go_ret
        exact ⟨rfl, _, rfl⟩
      · rw [decide_eq_false (fun h => h2 h.2.2)]
        have j1 : (many : Int) < (items : Int) := by omega
        have j2 : decide (s ≤ (bound : Int) - (sum : Int)) = false := decide_eq_false h2
        go_enter Try.func46, Try.ntmps46
        go_wp2_with fail
        go_quiet (fail)
        go_wp2_with fail
        go_ret
        exact ⟨rfl, _, rfl⟩
    · rw [decide_eq_false (fun h => h1 h.2.1)]
      have j1 : decide (many < items) = false := decide_eq_false h1
      have j2 : decide ((many : Int) < (items : Int)) = false := decide_eq_false (by omega)
      go_enter Try.func46, Try.ntmps46
      go_wp2_with fail
      go_quiet (fail)
      go_wp2_with fail
      go_ret
      exact ⟨rfl, _, rfl⟩
  · rw [decide_eq_false (fun h => h0 h.1)]
    have j1 : decide (0 ≤ s) = false := decide_eq_false h0
    go_enter Try.func46, Try.ntmps46
    go_wp2_with fail
    go_quiet (fail)
    go_wp2_with fail
    go_ret
    exact ⟨rfl, _, rfl⟩

theorem place_is (i : Nat) {w : World} {p : Nat} {g c f n : Nat} (c0 : w.cell? ⟨p, 0, none⟩ = some (.slice (some ⟨g, 0, none⟩) n c)) (c1 : w.cell? ⟨p, 1, none⟩ = some (.int .i64 f)) (hf : f < n) (hn : n ≤ 200000) (hi : i ≤ 200000) :
    Calls Try.prog 49 #[.pointer (some ⟨p, 0, none⟩), .int .i64 i] w fun e w' => e = .returned (.pointer (some ⟨g, (f + i) % n * 3, none⟩)) ∧ ∃ n, w' = w.drewN n := by
  have i4 : (0 : Int) ≤ ((f : Int) + (i : Int)) % (n : Int) := Int.emod_nonneg _ (by omega)
  have i5 : ((f : Int) + (i : Int)) % (n : Int) < (n : Int) := Int.emod_lt_of_pos _ (by omega)
  have i6 : (0 : Int) < (n : Int) := by omega
  go_enter Try.func49, Try.ntmps49
  go_wp2_with fail
  go_quiet (fail)
  go_wp2_with fail
  go_ret
  exact ⟨rfl, _, rfl⟩
end Go.Proofs.Ythipfcmjpgbemaa

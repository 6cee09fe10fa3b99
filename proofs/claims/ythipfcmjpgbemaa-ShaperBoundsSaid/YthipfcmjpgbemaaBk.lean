/- What a bucket of tokens is, as four numbers, and what is done with it: plain facts on numbers, over no program. -/
import Derived.Test.YthipfcmjpgbemaaBase
namespace Go.Proofs.Ythipfcmjpgbemaa

/-- Rate, burst, tick, tokens. -/
structure Bk where
  rate : Nat
  burst : Nat
  tick : Nat
  tok : Nat

/-- The four numbers fit 64 bits; never more tokens than the burst. -/
structure Bk.Ok (b : Bk) : Prop where
  rate : b.rate < 18446744073709551616
  burst : b.burst < 18446744073709551616
  tick : b.tick < 18446744073709551616
  tok : b.tok ≤ b.burst

/-- The four cells. -/
def Bk.cells (b : Bk) : Array Value := #[.int .u64 b.rate, .int .u64 b.burst, .int .u64 b.tick, .int .u64 b.tok]

/-- Filled up to a tick. -/
def Bk.fill (b : Bk) (t : Nat) : Bk := if t ≤ b.tick then b else { b with tok := min b.burst (b.tok + b.rate * (t - b.tick)), tick := t }

theorem Bk.fill_le {b : Bk} {t : Nat} (h : t ≤ b.tick) : b.fill t = b := if_pos h
theorem Bk.fill_gt {b : Bk} {t : Nat} (h : ¬ t ≤ b.tick) : b.fill t = { b with tok := min b.burst (b.tok + b.rate * (t - b.tick)), tick := t } := if_neg h

theorem Bk.Ok.fill {b : Bk} (h : b.Ok) {t : Nat} (ht : t < 18446744073709551616) : (b.fill t).Ok := by
  by_cases hle : t ≤ b.tick
  · rw [Bk.fill_le hle]; exact h
  · rw [Bk.fill_gt hle]
    exact ⟨h.rate, h.burst, ht, Nat.min_le_left _ _⟩

/-- Some tokens are taken. -/
def Bk.less (b : Bk) (n : Nat) : Bk := { b with tok := b.tok - n }

/-- Filled, and then taken from, if there is as much. -/
def Bk.take (b : Bk) (t n : Nat) : Bk := if n ≤ (b.fill t).tok then (b.fill t).less n else b.fill t
/-- Whether there is as much. -/
def Bk.can (b : Bk) (t n : Nat) : Bool := decide (n ≤ (b.fill t).tok)

theorem Bk.take_yes {b : Bk} {t n : Nat} (h : n ≤ (b.fill t).tok) : b.take t n = (b.fill t).less n := if_pos h
theorem Bk.take_no {b : Bk} {t n : Nat} (h : ¬ n ≤ (b.fill t).tok) : b.take t n = b.fill t := if_neg h
theorem Bk.can_yes {b : Bk} {t n : Nat} (h : n ≤ (b.fill t).tok) : b.can t n = true := decide_eq_true h
theorem Bk.can_no {b : Bk} {t n : Nat} (h : ¬ n ≤ (b.fill t).tok) : b.can t n = false := decide_eq_false h

theorem Bk.Ok.take {b : Bk} (h : b.Ok) {t n : Nat} (ht : t < 18446744073709551616) : (b.take t n).Ok := by
  have hf := h.fill ht
  unfold Bk.take
  split
  · refine ⟨hf.rate, hf.burst, hf.tick, ?_⟩
    show (b.fill t).tok - n ≤ (b.fill t).burst
    have := hf.tok
    omega
  · exact hf

/-- How many ticks it takes till n tokens are there. -/
def Bk.ticks (b : Bk) (n : Nat) : Nat := (n - b.tok - 1) / b.rate + 1
/-- The first tick at which n tokens are there, and whether there is one. -/
def Bk.when (b : Bk) (n : Nat) : Nat × Bool :=
  if n ≤ b.tok then (b.tick, true)
  else if b.burst < n ∨ b.rate = 0 then (0, false)
  else if b.tick + b.ticks n < 18446744073709551616 then (b.tick + b.ticks n, true)
  else (0, false)
theorem Bk.when_now {b : Bk} {n : Nat} (h : n ≤ b.tok) : b.when n = (b.tick, true) := if_pos h
theorem Bk.when_never {b : Bk} {n : Nat} (h : ¬ n ≤ b.tok) (h' : b.burst < n ∨ b.rate = 0) : b.when n = (0, false) := by
  unfold Bk.when; rw [if_neg h, if_pos h']
theorem Bk.when_later {b : Bk} {n : Nat} (h : ¬ n ≤ b.tok) (h' : ¬ (b.burst < n ∨ b.rate = 0)) (h2 : b.tick + b.ticks n < 18446744073709551616) : b.when n = (b.tick + b.ticks n, true) := by
  unfold Bk.when; rw [if_neg h, if_neg h', if_pos h2]
theorem Bk.when_past {b : Bk} {n : Nat} (h : ¬ n ≤ b.tok) (h' : ¬ (b.burst < n ∨ b.rate = 0)) (h2 : ¬ b.tick + b.ticks n < 18446744073709551616) : b.when n = (0, false) := by
  unfold Bk.when; rw [if_neg h, if_neg h', if_neg h2]
end Go.Proofs.Ythipfcmjpgbemaa

/- The bucket's Level, Take, Copy and When, walked. -/
import Derived.Test.YthipfcmjpgbemaaBw2
namespace Go.Proofs.Ythipfcmjpgbemaa
open Go.RowKit

theorem fill_any (p : Nat) (B : Bk) (t : Nat) (w : World) (hB : w.heap[p]? = some (.cells B.cells 122)) (hk : B.Ok) (ht : t < 18446744073709551616) :
    Calls Try.prog 71 #[.pointer (some ⟨p, 0, none⟩), .int .u64 t] w fun e w' =>
      e = .returned (.tuple #[]) ∧ w'.heap[p]? = some (.cells (B.fill t).cells 122) ∧ Only (· = p) w w' := by
  by_cases h : t ≤ B.tick
  · rw [Bk.fill_le h]
    exact fill_le p _ _ _ _ t w hB h
  · rw [Bk.fill_gt h]
    exact fill_gt p _ _ _ _ t w hB hk.rate hk.burst hk.tok ht (by omega)

theorem level_any (p : Nat) (B : Bk) (t : Nat) (w : World) (hB : w.heap[p]? = some (.cells B.cells 122)) (hk : B.Ok) (ht : t < 18446744073709551616) :
    Calls Try.prog 66 #[.pointer (some ⟨p, 0, none⟩), .int .u64 t] w fun e w' =>
      e = .returned (.int .u64 (B.fill t).tok) ∧ w'.heap[p]? = some (.cells (B.fill t).cells 122) ∧ Only (· = p) w w' := by
  have HB := Lib.hid hB
  clear hB
  go_enter Try.func66, Try.ntmps66
  go_wp2_with fail
  refine (fill_any p B t _ HB.out hk ht).mono ?_
  rintro e w1 ⟨rfl, hB1, hO⟩
  have h3 : w1.cell? ⟨p, 3, none⟩ = some (.int .u64 (B.fill t).tok) := cell_of_block hB1 3
  have HB1 := Lib.hid hB1
  clear hB1
  go_wp2
  go_ret
  exact ⟨rfl, HB1.out, hO⟩

theorem take_any (p : Nat) (B : Bk) (t n : Nat) (w : World) (hB : w.heap[p]? = some (.cells B.cells 122)) (hk : B.Ok) (ht : t < 18446744073709551616) :
    Calls Try.prog 55 #[.pointer (some ⟨p, 0, none⟩), .int .u64 t, .int .u64 n] w fun e w' =>
      e = .returned (.bool (B.can t n)) ∧ w'.heap[p]? = some (.cells (B.take t n).cells 122) ∧ Only (· = p) w w' := by
  have hok := hk.fill ht
  have hlev := level_any p B t w hB hk ht
  clear hB hk
  by_cases hle : n ≤ (B.fill t).tok
  · rw [Bk.can_yes hle, Bk.take_yes hle]
    generalize B.fill t = C at *
    have hb1 := hok.burst
    have hb2 := hok.tok
    have HL := Lib.hid hlev
    clear hlev
    go_enter Try.func55, Try.ntmps55
    go_wp2_with fail
    refine HL.out.mono ?_
    rintro e w1 ⟨rfl, hB1, hO⟩
    have h3 : w1.cell? ⟨p, 3, none⟩ = some (.int .u64 C.tok) := cell_of_block hB1 3
    have f3 : w1.frozen? ⟨p, 3, none⟩ = false := free_of_block hB1 3
    have HB1 := Lib.hid hB1
    clear hB1
    go_wp2
    go_ret
    refine ⟨rfl, ?_, hO.setCell (fun _ => rfl) _⟩
    rw [setCell_block HB1.out 3, show (C.tok : Int) - (n : Int) = ((C.tok - n : Nat) : Int) by omega]
    rfl
  · rw [Bk.can_no hle, Bk.take_no hle]
    generalize B.fill t = C at *
    have hb1 := hok.burst
    have hb2 := hok.tok
    have HL := Lib.hid hlev
    clear hlev
    go_enter Try.func55, Try.ntmps55
    go_wp2_with fail
    refine HL.out.mono ?_
    rintro e w1 ⟨rfl, hB1, hO⟩
    have HB1 := Lib.hid hB1
    clear hB1
    go_wp2
    go_ret
    exact ⟨rfl, HB1.out, hO⟩

theorem when_now (p : Nat) (B : Bk) (n : Nat) (w : World) (hB : w.heap[p]? = some (.cells B.cells 122)) (hn : n ≤ B.tok) :
    Calls Try.prog 53 #[.pointer (some ⟨p, 0, none⟩), .int .u64 n] w fun e w' =>
      e = .returned (.tuple #[.int .u64 B.tick, .bool true]) ∧ w' = w := by
  have h3 : w.cell? ⟨p, 3, none⟩ = some (.int .u64 B.tok) := cell_of_block hB 3
  have h2 : w.cell? ⟨p, 2, none⟩ = some (.int .u64 B.tick) := cell_of_block hB 2
  clear hB
  go_enter Try.func53, Try.ntmps53
  go_wp2
  go_ret2
  exact ⟨rfl, rfl⟩

theorem when_never (p : Nat) (B : Bk) (n : Nat) (w : World) (hB : w.heap[p]? = some (.cells B.cells 122)) (hn : ¬ n ≤ B.tok) (hb : B.burst < n ∨ B.rate = 0) :
    Calls Try.prog 53 #[.pointer (some ⟨p, 0, none⟩), .int .u64 n] w fun e w' =>
      e = .returned (.tuple #[.int .u64 0, .bool false]) ∧ w' = w := by
  have h3 : w.cell? ⟨p, 3, none⟩ = some (.int .u64 B.tok) := cell_of_block hB 3
  have h1 : w.cell? ⟨p, 1, none⟩ = some (.int .u64 B.burst) := cell_of_block hB 1
  have h0 : w.cell? ⟨p, 0, none⟩ = some (.int .u64 B.rate) := cell_of_block hB 0
  clear hB
  by_cases hb' : B.burst < n
  · clear hb
    go_enter Try.func53, Try.ntmps53
    go_wp2
    go_ret2
    exact ⟨rfl, rfl⟩
  · have hr : B.rate = 0 := by omega
    clear hb
    rw [hr] at h0
    clear hr
    go_enter Try.func53, Try.ntmps53
    go_wp2
    go_ret2
    exact ⟨rfl, rfl⟩

theorem when_later (p : Nat) (B : Bk) (n : Nat) (w : World) (hB : w.heap[p]? = some (.cells B.cells 122)) (hk : B.Ok) (hn : ¬ n ≤ B.tok) (hb : ¬ (B.burst < n ∨ B.rate = 0)) :
    Calls Try.prog 53 #[.pointer (some ⟨p, 0, none⟩), .int .u64 n] w fun e w' =>
      e = .returned (.tuple #[.int .u64 (B.when n).1, .bool (B.when n).2]) ∧ Only (fun _ => False) w w' := by
  have h3 : w.cell? ⟨p, 3, none⟩ = some (.int .u64 B.tok) := cell_of_block hB 3
  have h2 : w.cell? ⟨p, 2, none⟩ = some (.int .u64 B.tick) := cell_of_block hB 2
  have h1 : w.cell? ⟨p, 1, none⟩ = some (.int .u64 B.burst) := cell_of_block hB 1
  have h0 : w.cell? ⟨p, 0, none⟩ = some (.int .u64 B.rate) := cell_of_block hB 0
  clear hB
  have b1 := hk.rate
  have b2 := hk.burst
  have b3 := hk.tick
  have b4 := hk.tok
  have hr : 1 ≤ B.rate := by omega
  have hnb : n ≤ B.burst := by omega
  have hadd := add64
  have H1 := Lib.hid hn
  have H2 := Lib.hid hb
  clear hn hb hk
  have hn' : B.tok < n := by have := H1.out; omega
  have d1 : decide (B.burst < n) = false := by simp; omega
  have d2 : ((B.rate : Int) == 0) = false := by simp; omega
  have hq : IntKind.u64.wrap (((n : Int) - (B.tok : Int) - 1) / (B.rate : Int) + 1) = ((B.ticks n : Nat) : Int) := by
    have e : ((n : Int) - (B.tok : Int) - 1) / (B.rate : Int) = (((n - B.tok - 1) / B.rate : Nat) : Int) := by
      rw [show (n : Int) - (B.tok : Int) - 1 = ((n - B.tok - 1 : Nat) : Int) by omega]; rfl
    have hle : (n - B.tok - 1) / B.rate ≤ n - B.tok - 1 := Nat.div_le_self _ _
    rw [e]
    unfold Bk.ticks
    generalize (n - B.tok - 1) / B.rate = q at *
    rw [IntWalk.u64_in _ (by omega)]
    rfl
  by_cases h2' : B.tick + B.ticks n < 18446744073709551616
  · rw [Bk.when_later H1.out H2.out h2']
    go_enter Try.func53, Try.ntmps53
    go_wp2
    go_quiet (fail)
    go_wp2
    go_ret2
    have e : ((B.tick : Int) + ((B.ticks n : Nat) : Int)) % 18446744073709551616 = ((B.tick + B.ticks n : Nat) : Int) := by omega
    exact ⟨ret_ib e, (Only.refl _ _).drewN _⟩
  · rw [Bk.when_past H1.out H2.out h2']
    go_enter Try.func53, Try.ntmps53
    go_wp2
    go_quiet (fail)
    go_wp2
    go_ret2
    exact ⟨rfl, (Only.refl _ _).drewN _⟩

theorem when_any (p : Nat) (B : Bk) (n : Nat) (w : World) (hB : w.heap[p]? = some (.cells B.cells 122)) (hk : B.Ok) :
    Calls Try.prog 53 #[.pointer (some ⟨p, 0, none⟩), .int .u64 n] w fun e w' =>
      e = .returned (.tuple #[.int .u64 (B.when n).1, .bool (B.when n).2]) ∧ Only (fun _ => False) w w' := by
  by_cases hn : n ≤ B.tok
  · rw [Bk.when_now hn]
    exact (when_now p B n w hB hn).mono fun e w' ⟨h, h'⟩ => ⟨h, h' ▸ Only.refl _ _⟩
  · by_cases hb : B.burst < n ∨ B.rate = 0
    · rw [Bk.when_never hn hb]
      exact (when_never p B n w hB hn hb).mono fun e w' ⟨h, h'⟩ => ⟨h, h' ▸ Only.refl _ _⟩
    · exact when_later p B n w hB hk hn hb
end Go.Proofs.Ythipfcmjpgbemaa

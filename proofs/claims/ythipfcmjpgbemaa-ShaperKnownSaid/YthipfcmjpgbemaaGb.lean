/- The bucket's small functions, walked. -/
import Derived.Test.YthipfcmjpgbemaaGa
import Derived.Test.YthipfcmjpgbemaaRows
import Derived.Outline
import Derived.Shelf.Bits.Mul64
import Derived.Test.YthipfcmjpgbemaaProg
import Derived.Defers
import Derived.Deep.QuietTactic
import Derived.BigQuiet
import Derived.StillTailTactics
import Derived.WalkLawsBesides
namespace Go.Proofs.Ythipfcmjpgbemaa
open Go.RowKit

theorem new_any (r b t : Nat) (w : World) :
    Calls Try.prog 27 #[.int .u64 r, .int .u64 b, .int .u64 t] w fun e w' =>
      e = .returned (.pointer (some ⟨w.heap.size, 0, none⟩)) ∧ w' = w.alloc (.cells #[.int .u64 r, .int .u64 b, .int .u64 t, .int .u64 b] 122) := by
  go_enter Try.func27, Try.ntmps27
  go_wp2
  go_ret
  exact ⟨rfl, rfl⟩

end Go.Proofs.Ythipfcmjpgbemaa

/-
  DERIVED: THE SHELF's CONTRACTS AT THIS DUMP, IN PLAIN WORDS (tools/lay-plain.mjs out of 'TryShelf.lean', which tools/lay-shelf.mjs wrote): THE SAME DECLARATIONS UNDER THE SAME NAMES: 'import', 'namespace', 'open', 'def', 'theorem' AND NOTHING ELSE: no command of the shelf's: FOR A HAND-IN. Each laying: the table of numbers ('.._ren') and one theorem, a field a fact of the dump's own or the kernel's comparison; each contract: ONE APPLICATION.
-/
namespace Go.Proofs
open Go.Shelf
def Try.lays264_ren : Go.Shelf.Ren := ⟨fun | 264 => 78 | n => n, fun | 53 => 30 | 46 => 160 | n => n, fun | n => n⟩
theorem Try.lays264 : Go.Proofs.Lays.n264 Try.prog Try.lays264_ren := {
  mixed := by kernel_rfl
  f264 := Try.func78.trans (congrArg some (by kernel_rfl))
  t46 := Try.underlying160
  a46 := Try.isAgg160
  z46 := Try.sizeOf160
  v46 := Try.zeroValue160
  t53 := Try.underlying30
  a53 := Try.isAgg30
  z53 := Try.sizeOf30
  v53 := Try.zeroValue30 }
open Go.RowKit Go.Lib in
theorem Try.bits_Mul64 (x y : Nat) (hx : x < 18446744073709551616) (hy : y < 18446744073709551616) (w : World) :
    Calls Try.prog 78 #[.int .u64 x, .int .u64 y] w fun e w' => e = .returned (.tuple #[.int .u64 ((x * y / 18446744073709551616 : Nat) : Int), .int .u64 ((x * y % 18446744073709551616 : Nat) : Int)]) ∧ w' = w := Any.bits_Mul64 Try.lays264 x y hx hy w
end Go.Proofs

/- The bucket's put, fill, Level and Take, walked. -/
namespace Go.Proofs.Ythipfcmjpgbemaa
open Go.RowKit

theorem add64 (x y : Nat) (w : World) : (callFunc 65 #[.int .u64 x, .int .u64 y, .int .u64 0]).run Try.prog w =
    .ok (.value (.tuple #[.int .u64 (((x + y) % 18446744073709551616 : Nat) : Int), .int .u64 (((x + y) / 18446744073709551616 : Nat) : Int)])) w := by
  rw [run_callFunc_extern Try.func65 (by kernel_rfl) (by kernel_rfl) (by kernel_rfl) (e := add64Entry) (by kernel_rfl), run_add64 x y 0 (by omega) (by omega) (by omega) (by omega)]
  simp only [Result.andThen]
  congr 5 <;> omega

theorem put_any (p r b t k : Nat) (o n : Int) (X : Nat) (w : World) (hB : w.heap[p]? = some (.cells #[.int .u64 r, .int .u64 b, .int .u64 t, .int .u64 k] 122))
    (hb : b < 18446744073709551616) (hk : k ≤ b) (ho : 0 ≤ o) (hn0 : 0 ≤ n) (hn : n < 18446744073709551616) (hX : o * 18446744073709551616 + n = (X : Int)) :
    Calls Try.prog 77 #[.pointer (some ⟨p, 0, none⟩), .int .u64 o, .int .u64 n] w fun e w' =>
      e = .returned (.tuple #[]) ∧ w' = w.setCell ⟨p, 3, none⟩ (.int .u64 ((min b (k + X) : Nat) : Int)) := by
  obtain ⟨n, rfl⟩ := Int.eq_ofNat_of_zero_le hn0
  obtain ⟨o, rfl⟩ := Int.eq_ofNat_of_zero_le ho
  have HX := Lib.hid hX
  have hn' : n < 18446744073709551616 := by omega
  clear hX hn hn0 ho
  have h3 : w.cell? ⟨p, 3, none⟩ = some (.int .u64 k) := cell_of_block hB 3
  have h1 : w.cell? ⟨p, 1, none⟩ = some (.int .u64 b) := cell_of_block hB 1
  have f3 : w.frozen? ⟨p, 3, none⟩ = false := free_of_block hB 3
  have hadd := add64
  clear hB
  go_enter Try.func77, Try.ntmps77
  go_wp2
  all_goals
    go_end0
    have hX := HX.out
    exact ⟨rfl, set_int (by omega)⟩

theorem fill_deferred (p bt bp : Nat) (r b t k t' : Nat) (u : _) (w : World) (hB : w.heap[p]? = some (.cells #[.int .u64 r, .int .u64 b, .int .u64 t, .int .u64 k] 122))
    (ht : w.heap[bt]? = some (.cells #[.int .u64 t'] 30)) (hp : w.heap[bp]? = some (.cells #[.pointer (some ⟨p, 0, none⟩)] 78)) :
    CallsD Try.prog 76 #[.pointer (some ⟨bt, 0, none⟩), .pointer (some ⟨bp, 0, none⟩)] u w fun e u' w' =>
      u' = u ∧ (e = .returned (.tuple #[]) ∧ w' = w.setCell ⟨p, 2, none⟩ (.int .u64 t')) := by
  have h2 : w.cell? ⟨p, 2, none⟩ = some (.int .u64 t) := cell_of_block hB 2
  have f2 : w.frozen? ⟨p, 2, none⟩ = false := free_of_block hB 2
  have h3 : w.cell? ⟨bt, 0, none⟩ = some (.int .u64 t') := cell_of_block ht 0
  have h4 : w.cell? ⟨bp, 0, none⟩ = some (.pointer (some ⟨p, 0, none⟩)) := cell_of_block hp 0
  clear hB ht hp
  go_enter_d Try.func76, Try.ntmps76
  go_wp2
  go_end0
  exact ⟨rfl, rfl⟩

theorem fill_le (p r b t k t' : Nat) (w : World) (hB : w.heap[p]? = some (.cells #[.int .u64 r, .int .u64 b, .int .u64 t, .int .u64 k] 122))
    (ht : t' ≤ t) :
    Calls Try.prog 71 #[.pointer (some ⟨p, 0, none⟩), .int .u64 t'] w fun e w' =>
      e = .returned (.tuple #[]) ∧ w'.heap[p]? = some (.cells #[.int .u64 r, .int .u64 b, .int .u64 t, .int .u64 k] 122) ∧ Only (· = p) w w' := by
  have h2 : w.cell? ⟨p, 2, none⟩ = some (.int .u64 t) := cell_of_block hB 2
  have hpl := lt_of_obj hB
  have HB := Lib.hid hB
  clear hB
  go_enter_defers Try.func71, Try.ntmps71
  go_wp2
  go_quiet (fail)
  go_wp2
  have hO : Only (· = p) w (((w.alloc (Obj.cells #[Value.pointer (some ⟨p, 0, none⟩)] 78)).alloc (Obj.cells #[Value.int IntKind.u64 ↑t'] 30)).drewN nq) := (((Only.refl _ _).alloc _).alloc _).drewN _
  have hN : Only (fun _ => False) w (((w.alloc (Obj.cells #[Value.pointer (some ⟨p, 0, none⟩)] 78)).alloc (Obj.cells #[Value.int IntKind.u64 ↑t'] 30)).drewN nq) := (((Only.refl _ _).alloc _).alloc _).drewN _
  exact ⟨_, results_none rfl _ _ _, rfl, hN.keep HB.out (fun h => h), hO⟩

set_option maxRecDepth 100000 in
theorem fill_gt (p r b t k t' : Nat) (w : World) (hB : w.heap[p]? = some (.cells #[.int .u64 r, .int .u64 b, .int .u64 t, .int .u64 k] 122))
    (hr : r < 18446744073709551616) (hb : b < 18446744073709551616) (hk : k ≤ b) (ht' : t' < 18446744073709551616) (ht : t < t') :
    Calls Try.prog 71 #[.pointer (some ⟨p, 0, none⟩), .int .u64 t'] w fun e w' =>
      e = .returned (.tuple #[]) ∧ w'.heap[p]? = some (.cells #[.int .u64 r, .int .u64 b, .int .u64 t', .int .u64 ((min b (k + r * (t' - t)) : Nat) : Int)] 122) ∧ Only (· = p) w w' := by
  have h2 : w.cell? ⟨p, 2, none⟩ = some (.int .u64 t) := cell_of_block hB 2
  have h0 : w.cell? ⟨p, 0, none⟩ = some (.int .u64 r) := cell_of_block hB 0
  have hpl := lt_of_obj hB
  have HB := Lib.hid hB
  clear hB
  have hmf : ∀ (fn : Fn) (first cap : Array Value) (w : World), (Instr.makeFunc fn first cap).run Try.prog w = .ok (.func fn first cap) w := fun _ _ _ _ => rfl
  go_enter_defers Try.func71, Try.ntmps71
  go_wp2
  go_quiet (fail)
  go_wp2
  have hO : Only (· = p) w (((w.alloc (Obj.cells #[Value.pointer (some ⟨p, 0, none⟩)] 78)).alloc (Obj.cells #[Value.int IntKind.u64 ↑t'] 30)).drewN nq) := (((Only.refl _ _).alloc _).alloc _).drewN _
  have hN : Only (fun _ => False) w (((w.alloc (Obj.cells #[Value.pointer (some ⟨p, 0, none⟩)] 78)).alloc (Obj.cells #[Value.int IntKind.u64 ↑t'] 30)).drewN nq) := (((Only.refl _ _).alloc _).alloc _).drewN _
  have hw : IntKind.u64.wrap ((t' : Int) - (t : Int)) = ((t' - t : Nat) : Int) := by rw [IntWalk.u64_in _ (by omega)]; omega
  refine region_tail 14 (by kernel_rfl) (by kernel_rfl) ?_
  simp only [List.take_succ_cons, List.take_zero, List.drop_succ_cons, List.drop_zero]
  repeat still_step
  still_call (Try.bits_Mul64 r (t' - t) hr (by omega) _)
  clear hw
  repeat still_step
  refine wpStill_nil ?_
  go_wp2_with fail
  have hX : (r : Int) * ((t' - t : Nat) : Int) / 18446744073709551616 * 18446744073709551616 + (r : Int) * ((t' - t : Nat) : Int) % 18446744073709551616 = ((r * (t' - t) : Nat) : Int) := by
    rw [Int.natCast_mul]; omega
  have HN := Lib.hid hN
  clear hN hO
  refine (put_any p r b t k _ _ (r * (t' - t)) _ (HN.out.drew.keep HB.out (fun h => h)) hb hk (by omega) (by omega) (by omega) hX).mono ?_
  clear hX
  rintro e w' ⟨rfl, rfl⟩
  go_wp2
  have hO1 := HN.out.drew
  refine leaves_cons (f := 76) (args := #[.pointer (some ⟨w.heap.size + 1, 0, none⟩), .pointer (some ⟨w.heap.size, 0, none⟩)]) (by simp) (by simp [go_sem]) ?_
  refine (fill_deferred p (w.heap.size + 1) w.heap.size r b t (min b (k + r * (t' - t))) t' .returning _ ?_ ?_ ?_).mono ?_
  · exact setCell_block (hO1.keep HB.out (fun h => h)) 3 _
  · refine (setCell_block_other 3 _ (by omega)).trans ?_
    exact alloc_block_at (w.alloc (Obj.cells #[Value.pointer (some ⟨p, 0, none⟩)] 78)) _ (by simp)
  · refine (setCell_block_other 3 _ (by omega)).trans ?_
    exact (alloc_block_old _ (by simp)).trans (alloc_block_new w _)
  rintro e u' w'' ⟨rfl, rfl, rfl⟩
  refine ⟨_, results_none rfl _ _ _, rfl, ?_, ?_⟩
  · exact setCell_block (setCell_block (hO1.keep HB.out (fun h => h)) 3 _) 2 _
  · refine Only.setCell (Only.setCell ?_ (by simp) _) (by simp) _
    exact (((Only.refl _ _).alloc _).alloc _).drewN _
end Go.Proofs.Ythipfcmjpgbemaa

/- The bucket's Level, Take, Copy and When, walked. -/
namespace Go.Proofs.Ythipfcmjpgbemaa
open Go.RowKit

theorem fill_any (p : Nat) (B : Bk) (t : Nat) (w : World) (hB : w.heap[p]? = some (.cells B.cells 122)) (hk : B.Ok) (ht : t < 18446744073709551616) :
    Calls Try.prog 71 #[.pointer (some ⟨p, 0, none⟩), .int .u64 t] w fun e w' =>
      e = .returned (.tuple #[]) ∧ w'.heap[p]? = some (.cells (B.fill t).cells 122) ∧ Only (· = p) w w' := by
  by_cases h : t ≤ B.tick
  · rw [Bk.fill_le h]
    exact fill_le p _ _ _ _ t w hB h
  · rw [Bk.fill_gt h]
    exact fill_gt p _ _ _ _ t w hB hk.rate hk.burst hk.tok ht (by omega)

theorem level_any (p : Nat) (B : Bk) (t : Nat) (w : World) (hB : w.heap[p]? = some (.cells B.cells 122)) (hk : B.Ok) (ht : t < 18446744073709551616) :
    Calls Try.prog 66 #[.pointer (some ⟨p, 0, none⟩), .int .u64 t] w fun e w' =>
      e = .returned (.int .u64 (B.fill t).tok) ∧ w'.heap[p]? = some (.cells (B.fill t).cells 122) ∧ Only (· = p) w w' := by
  have HB := Lib.hid hB
  clear hB
  go_enter Try.func66, Try.ntmps66
  go_wp2_with fail
  refine (fill_any p B t _ HB.out hk ht).mono ?_
  rintro e w1 ⟨rfl, hB1, hO⟩
  have h3 : w1.cell? ⟨p, 3, none⟩ = some (.int .u64 (B.fill t).tok) := cell_of_block hB1 3
  have HB1 := Lib.hid hB1
  clear hB1
  go_wp2
  go_ret
  exact ⟨rfl, HB1.out, hO⟩

theorem take_any (p : Nat) (B : Bk) (t n : Nat) (w : World) (hB : w.heap[p]? = some (.cells B.cells 122)) (hk : B.Ok) (ht : t < 18446744073709551616) :
    Calls Try.prog 55 #[.pointer (some ⟨p, 0, none⟩), .int .u64 t, .int .u64 n] w fun e w' =>
      e = .returned (.bool (B.can t n)) ∧ w'.heap[p]? = some (.cells (B.take t n).cells 122) ∧ Only (· = p) w w' := by
  have hok := hk.fill ht
  have hlev := level_any p B t w hB hk ht
  clear hB hk
  by_cases hle : n ≤ (B.fill t).tok
  · rw [Bk.can_yes hle, Bk.take_yes hle]
    generalize B.fill t = C at *
    have hb1 := hok.burst
    have hb2 := hok.tok
    have HL := Lib.hid hlev
    clear hlev
    go_enter Try.func55, Try.ntmps55
    go_wp2_with fail
    refine HL.out.mono ?_
    rintro e w1 ⟨rfl, hB1, hO⟩
    have h3 : w1.cell? ⟨p, 3, none⟩ = some (.int .u64 C.tok) := cell_of_block hB1 3
    have f3 : w1.frozen? ⟨p, 3, none⟩ = false := free_of_block hB1 3
    have HB1 := Lib.hid hB1
    clear hB1
    go_wp2
    go_ret
    refine ⟨rfl, ?_, hO.setCell (fun _ => rfl) _⟩
    rw [setCell_block HB1.out 3, show (C.tok : Int) - (n : Int) = ((C.tok - n : Nat) : Int) by omega]
    rfl
  · rw [Bk.can_no hle, Bk.take_no hle]
    generalize B.fill t = C at *
    have hb1 := hok.burst
    have hb2 := hok.tok
    have HL := Lib.hid hlev
    clear hlev
    go_enter Try.func55, Try.ntmps55
    go_wp2_with fail
    refine HL.out.mono ?_
    rintro e w1 ⟨rfl, hB1, hO⟩
    have HB1 := Lib.hid hB1
    clear hB1
    go_wp2
    go_ret
    exact ⟨rfl, HB1.out, hO⟩

theorem when_now (p : Nat) (B : Bk) (n : Nat) (w : World) (hB : w.heap[p]? = some (.cells B.cells 122)) (hn : n ≤ B.tok) :
    Calls Try.prog 53 #[.pointer (some ⟨p, 0, none⟩), .int .u64 n] w fun e w' =>
      e = .returned (.tuple #[.int .u64 B.tick, .bool true]) ∧ w' = w := by
  have h3 : w.cell? ⟨p, 3, none⟩ = some (.int .u64 B.tok) := cell_of_block hB 3
  have h2 : w.cell? ⟨p, 2, none⟩ = some (.int .u64 B.tick) := cell_of_block hB 2
  clear hB
  go_enter Try.func53, Try.ntmps53
  go_wp2
  go_ret2
  exact ⟨rfl, rfl⟩

theorem when_never (p : Nat) (B : Bk) (n : Nat) (w : World) (hB : w.heap[p]? = some (.cells B.cells 122)) (hn : ¬ n ≤ B.tok) (hb : B.burst < n ∨ B.rate = 0) :
    Calls Try.prog 53 #[.pointer (some ⟨p, 0, none⟩), .int .u64 n] w fun e w' =>
      e = .returned (.tuple #[.int .u64 0, .bool false]) ∧ w' = w := by
  have h3 : w.cell? ⟨p, 3, none⟩ = some (.int .u64 B.tok) := cell_of_block hB 3
  have h1 : w.cell? ⟨p, 1, none⟩ = some (.int .u64 B.burst) := cell_of_block hB 1
  have h0 : w.cell? ⟨p, 0, none⟩ = some (.int .u64 B.rate) := cell_of_block hB 0
  clear hB
  by_cases hb' : B.burst < n
  · clear hb
    go_enter Try.func53, Try.ntmps53
    go_wp2
    go_ret2
    exact ⟨rfl, rfl⟩
  · have hr : B.rate = 0 := by omega
    clear hb
    rw [hr] at h0
    clear hr
    go_enter Try.func53, Try.ntmps53
    go_wp2
    go_ret2
    exact ⟨rfl, rfl⟩

theorem when_later (p : Nat) (B : Bk) (n : Nat) (w : World) (hB : w.heap[p]? = some (.cells B.cells 122)) (hk : B.Ok) (hn : ¬ n ≤ B.tok) (hb : ¬ (B.burst < n ∨ B.rate = 0)) :
    Calls Try.prog 53 #[.pointer (some ⟨p, 0, none⟩), .int .u64 n] w fun e w' =>
      e = .returned (.tuple #[.int .u64 (B.when n).1, .bool (B.when n).2]) ∧ Only (fun _ => False) w w' := by
  have h3 : w.cell? ⟨p, 3, none⟩ = some (.int .u64 B.tok) := cell_of_block hB 3
  have h2 : w.cell? ⟨p, 2, none⟩ = some (.int .u64 B.tick) := cell_of_block hB 2
  have h1 : w.cell? ⟨p, 1, none⟩ = some (.int .u64 B.burst) := cell_of_block hB 1
  have h0 : w.cell? ⟨p, 0, none⟩ = some (.int .u64 B.rate) := cell_of_block hB 0
  clear hB
  have b1 := hk.rate
  have b2 := hk.burst
  have b3 := hk.tick
  have b4 := hk.tok
  have hr : 1 ≤ B.rate := by omega
  have hnb : n ≤ B.burst := by omega
  have hadd := add64
  have H1 := Lib.hid hn
  have H2 := Lib.hid hb
  clear hn hb hk
  have hn' : B.tok < n := by have := H1.out; omega
  have d1 : decide (B.burst < n) = false := by simp; omega
  have d2 : ((B.rate : Int) == 0) = false := by simp; omega
  have hq : IntKind.u64.wrap (((n : Int) - (B.tok : Int) - 1) / (B.rate : Int) + 1) = ((B.ticks n : Nat) : Int) := by
    have e : ((n : Int) - (B.tok : Int) - 1) / (B.rate : Int) = (((n - B.tok - 1) / B.rate : Nat) : Int) := by
      rw [show (n : Int) - (B.tok : Int) - 1 = ((n - B.tok - 1 : Nat) : Int) by omega]; rfl
    have hle : (n - B.tok - 1) / B.rate ≤ n - B.tok - 1 := Nat.div_le_self _ _
    rw [e]
    unfold Bk.ticks
    generalize (n - B.tok - 1) / B.rate = q at *
    rw [IntWalk.u64_in _ (by omega)]
    rfl
  by_cases h2' : B.tick + B.ticks n < 18446744073709551616
  · rw [Bk.when_later H1.out H2.out h2']
    go_enter Try.func53, Try.ntmps53
    go_wp2
    go_quiet (fail)
    go_wp2
    go_ret2
    have e : ((B.tick : Int) + ((B.ticks n : Nat) : Int)) % 18446744073709551616 = ((B.tick + B.ticks n : Nat) : Int) := by omega
    exact ⟨ret_ib e, (Only.refl _ _).drewN _⟩
  · rw [Bk.when_past H1.out H2.out h2']
    go_enter Try.func53, Try.ntmps53
    go_wp2
    go_quiet (fail)
    go_wp2
    go_ret2
    exact ⟨rfl, (Only.refl _ _).drewN _⟩

theorem when_any (p : Nat) (B : Bk) (n : Nat) (w : World) (hB : w.heap[p]? = some (.cells B.cells 122)) (hk : B.Ok) :
    Calls Try.prog 53 #[.pointer (some ⟨p, 0, none⟩), .int .u64 n] w fun e w' =>
      e = .returned (.tuple #[.int .u64 (B.when n).1, .bool (B.when n).2]) ∧ Only (fun _ => False) w w' := by
  by_cases hn : n ≤ B.tok
  · rw [Bk.when_now hn]
    exact (when_now p B n w hB hn).mono fun e w' ⟨h, h'⟩ => ⟨h, h' ▸ Only.refl _ _⟩
  · by_cases hb : B.burst < n ∨ B.rate = 0
    · rw [Bk.when_never hn hb]
      exact (when_never p B n w hB hn hb).mono fun e w' ⟨h, h'⟩ => ⟨h, h' ▸ Only.refl _ _⟩
    · exact when_later p B n w hB hk hn hb
end Go.Proofs.Ythipfcmjpgbemaa

/- The bucket's functions in the forms that a caller wants; the chapter's examples. -/
namespace Go.Proofs.Ythipfcmjpgbemaa
open Go.RowKit

/-- The block p is the bucket B. -/
def IsB (w : World) (p : Nat) (B : Bk) : Prop := w.heap[p]? = some (.cells B.cells 122)

theorem IsB.lt {w : World} {p : Nat} {B : Bk} (h : IsB w p B) : p < w.heap.size := lt_of_obj h
theorem IsB.keep {w w' : World} {p : Nat} {B : Bk} {S : Nat → Prop} (h : IsB w p B) (hO : Only S w w') (hS : ¬ S p) : IsB w' p B := hO.keep h hS

theorem bnew_is (r b t : Nat) (w : World) :
    Calls Try.prog 27 #[.int .u64 r, .int .u64 b, .int .u64 t] w fun e w' =>
      ∃ p, e = .returned (.pointer (some ⟨p, 0, none⟩)) ∧ w.heap.size ≤ p ∧ IsB w' p ⟨r, b, t, b⟩ ∧ Only (fun _ => False) w w' :=
  (new_any r b t w).mono fun e w' ⟨he, hw⟩ => ⟨_, he, Nat.le_refl _, by rw [hw]; exact alloc_block_new _ _, by rw [hw]; exact (Only.refl _ _).alloc _⟩

theorem take_is {B B' : Bk} {c : Bool} (p t n : Nat) (w : World) (hB : IsB w p B) (hk : B.Ok) (ht : t < 18446744073709551616) (hc : B.can t n = c) (hB' : B.take t n = B') :
    Calls Try.prog 55 #[.pointer (some ⟨p, 0, none⟩), .int .u64 t, .int .u64 n] w fun e w' =>
      e = .returned (.bool c) ∧ IsB w' p B' ∧ Only (· = p) w w' := by
  subst hc hB'
  exact take_any p B t n w hB hk ht

theorem level_is {B B' : Bk} {n : Nat} (p t : Nat) (w : World) (hB : IsB w p B) (hk : B.Ok) (ht : t < 18446744073709551616) (hB' : B.fill t = B') (hn : B'.tok = n) :
    Calls Try.prog 66 #[.pointer (some ⟨p, 0, none⟩), .int .u64 t] w fun e w' =>
      e = .returned (.int .u64 n) ∧ IsB w' p B' ∧ Only (· = p) w w' := by
  subst hn hB'
  exact level_any p B t w hB hk ht

theorem when_is {B : Bk} {a : Nat} {c : Bool} (p n : Nat) (w : World) (hB : IsB w p B) (hk : B.Ok) (hw : B.when n = (a, c)) :
    Calls Try.prog 53 #[.pointer (some ⟨p, 0, none⟩), .int .u64 n] w fun e w' =>
      e = .returned (.tuple #[.int .u64 a, .bool c]) ∧ IsB w' p B ∧ Only (fun _ => False) w w' := by
  have h := when_any p B n w hB hk
  rw [hw] at h
  exact h.mono fun e w' ⟨he, hO⟩ => ⟨he, hB.keep hO (fun h => h), hO⟩

theorem level_nil (t : Int) (w : World) :
    Calls Try.prog 66 #[.pointer none, .int .u64 t] w fun e w' => e = .returned (.int .u64 0) ∧ w' = w := by
  go_enter Try.func66, Try.ntmps66
  go_wp2
  go_ret
  exact ⟨rfl, rfl⟩
theorem take_nil (t n : Int) (w : World) :
    Calls Try.prog 55 #[.pointer none, .int .u64 t, .int .u64 n] w fun e w' => e = .returned (.bool false) ∧ w' = w := by
  go_enter Try.func55, Try.ntmps55
  go_wp2
  go_ret
  exact ⟨rfl, rfl⟩
theorem when_nil (n : Int) (w : World) :
    Calls Try.prog 53 #[.pointer none, .int .u64 n] w fun e w' => e = .returned (.tuple #[.int .u64 0, .bool false]) ∧ w' = w := by
  go_enter Try.func53, Try.ntmps53
  go_wp2
  go_ret2
  exact ⟨rfl, rfl⟩
end Go.Proofs.Ythipfcmjpgbemaa

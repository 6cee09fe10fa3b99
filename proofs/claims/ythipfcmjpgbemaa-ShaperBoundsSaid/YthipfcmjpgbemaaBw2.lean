/- The bucket's put, fill, Level and Take, walked. -/
import Derived.Test.YthipfcmjpgbemaaBw1
import Derived.Test.YthipfcmjpgbemaaShelf
import Derived.Defers
import Derived.Deep.QuietTactic
import Derived.BigQuiet
import Derived.StillTailTactics
import Derived.WalkLawsBesides
namespace Go.Proofs.Ythipfcmjpgbemaa
open Go.RowKit

theorem add64 (x y : Nat) (w : World) : (callFunc 65 #[.int .u64 x, .int .u64 y, .int .u64 0]).run Try.prog w =
    .ok (.value (.tuple #[.int .u64 (((x + y) % 18446744073709551616 : Nat) : Int), .int .u64 (((x + y) / 18446744073709551616 : Nat) : Int)])) w := by
  rw [run_callFunc_extern Try.func65 (by kernel_rfl) (by kernel_rfl) (by kernel_rfl) (e := add64Entry) (by kernel_rfl), run_add64 x y 0 (by omega) (by omega) (by omega) (by omega)]
  simp only [Result.andThen]
  congr 5 <;> omega

theorem put_any (p r b t k : Nat) (o n : Int) (X : Nat) (w : World) (hB : w.heap[p]? = some (.cells #[.int .u64 r, .int .u64 b, .int .u64 t, .int .u64 k] 122))
    (hb : b < 18446744073709551616) (hk : k ≤ b) (ho : 0 ≤ o) (hn0 : 0 ≤ n) (hn : n < 18446744073709551616) (hX : o * 18446744073709551616 + n = (X : Int)) :
    Calls Try.prog 77 #[.pointer (some ⟨p, 0, none⟩), .int .u64 o, .int .u64 n] w fun e w' =>
      e = .returned (.tuple #[]) ∧ w' = w.setCell ⟨p, 3, none⟩ (.int .u64 ((min b (k + X) : Nat) : Int)) := by
  obtain ⟨n, rfl⟩ := Int.eq_ofNat_of_zero_le hn0
  obtain ⟨o, rfl⟩ := Int.eq_ofNat_of_zero_le ho
  have HX := Lib.hid hX
  have hn' : n < 18446744073709551616 := by omega
  clear hX hn hn0 ho
  have h3 : w.cell? ⟨p, 3, none⟩ = some (.int .u64 k) := cell_of_block hB 3
  have h1 : w.cell? ⟨p, 1, none⟩ = some (.int .u64 b) := cell_of_block hB 1
  have f3 : w.frozen? ⟨p, 3, none⟩ = false := free_of_block hB 3
  have hadd := add64
  clear hB
  go_enter Try.func77, Try.ntmps77
  go_wp2
  all_goals
    go_end0
    have hX := HX.out
    exact ⟨rfl, set_int (by omega)⟩

theorem fill_deferred (p bt bp : Nat) (r b t k t' : Nat) (u : _) (w : World) (hB : w.heap[p]? = some (.cells #[.int .u64 r, .int .u64 b, .int .u64 t, .int .u64 k] 122))
    (ht : w.heap[bt]? = some (.cells #[.int .u64 t'] 30)) (hp : w.heap[bp]? = some (.cells #[.pointer (some ⟨p, 0, none⟩)] 78)) :
    CallsD Try.prog 76 #[.pointer (some ⟨bt, 0, none⟩), .pointer (some ⟨bp, 0, none⟩)] u w fun e u' w' =>
      u' = u ∧ (e = .returned (.tuple #[]) ∧ w' = w.setCell ⟨p, 2, none⟩ (.int .u64 t')) := by
  have h2 : w.cell? ⟨p, 2, none⟩ = some (.int .u64 t) := cell_of_block hB 2
  have f2 : w.frozen? ⟨p, 2, none⟩ = false := free_of_block hB 2
  have h3 : w.cell? ⟨bt, 0, none⟩ = some (.int .u64 t') := cell_of_block ht 0
  have h4 : w.cell? ⟨bp, 0, none⟩ = some (.pointer (some ⟨p, 0, none⟩)) := cell_of_block hp 0
  clear hB ht hp
  go_enter_d Try.func76, Try.ntmps76
  go_wp2
  go_end0
  exact ⟨rfl, rfl⟩

theorem fill_le (p r b t k t' : Nat) (w : World) (hB : w.heap[p]? = some (.cells #[.int .u64 r, .int .u64 b, .int .u64 t, .int .u64 k] 122))
    (ht : t' ≤ t) :
    Calls Try.prog 71 #[.pointer (some ⟨p, 0, none⟩), .int .u64 t'] w fun e w' =>
      e = .returned (.tuple #[]) ∧ w'.heap[p]? = some (.cells #[.int .u64 r, .int .u64 b, .int .u64 t, .int .u64 k] 122) ∧ Only (· = p) w w' := by
  have h2 : w.cell? ⟨p, 2, none⟩ = some (.int .u64 t) := cell_of_block hB 2
  have hpl := lt_of_obj hB
  have HB := Lib.hid hB
  clear hB
  go_enter_defers Try.func71, Try.ntmps71
  go_wp2
  go_quiet (fail)
  go_wp2
  have hO : Only (· = p) w (((w.alloc (Obj.cells #[Value.pointer (some ⟨p, 0, none⟩)] 78)).alloc (Obj.cells #[Value.int IntKind.u64 ↑t'] 30)).drewN nq) := (((Only.refl _ _).alloc _).alloc _).drewN _
  have hN : Only (fun _ => False) w (((w.alloc (Obj.cells #[Value.pointer (some ⟨p, 0, none⟩)] 78)).alloc (Obj.cells #[Value.int IntKind.u64 ↑t'] 30)).drewN nq) := (((Only.refl _ _).alloc _).alloc _).drewN _
  exact ⟨_, results_none rfl _ _ _, rfl, hN.keep HB.out (fun h => h), hO⟩

set_option maxRecDepth 100000 in
theorem fill_gt (p r b t k t' : Nat) (w : World) (hB : w.heap[p]? = some (.cells #[.int .u64 r, .int .u64 b, .int .u64 t, .int .u64 k] 122))
    (hr : r < 18446744073709551616) (hb : b < 18446744073709551616) (hk : k ≤ b) (ht' : t' < 18446744073709551616) (ht : t < t') :
    Calls Try.prog 71 #[.pointer (some ⟨p, 0, none⟩), .int .u64 t'] w fun e w' =>
      e = .returned (.tuple #[]) ∧ w'.heap[p]? = some (.cells #[.int .u64 r, .int .u64 b, .int .u64 t', .int .u64 ((min b (k + r * (t' - t)) : Nat) : Int)] 122) ∧ Only (· = p) w w' := by
  have h2 : w.cell? ⟨p, 2, none⟩ = some (.int .u64 t) := cell_of_block hB 2
  have h0 : w.cell? ⟨p, 0, none⟩ = some (.int .u64 r) := cell_of_block hB 0
  have hpl := lt_of_obj hB
  have HB := Lib.hid hB
  clear hB
  have hmf : ∀ (fn : Fn) (first cap : Array Value) (w : World), (Instr.makeFunc fn first cap).run Try.prog w = .ok (.func fn first cap) w := fun _ _ _ _ => rfl
  go_enter_defers Try.func71, Try.ntmps71
  go_wp2
  go_quiet (fail)
  go_wp2
  have hO : Only (· = p) w (((w.alloc (Obj.cells #[Value.pointer (some ⟨p, 0, none⟩)] 78)).alloc (Obj.cells #[Value.int IntKind.u64 ↑t'] 30)).drewN nq) := (((Only.refl _ _).alloc _).alloc _).drewN _
  have hN : Only (fun _ => False) w (((w.alloc (Obj.cells #[Value.pointer (some ⟨p, 0, none⟩)] 78)).alloc (Obj.cells #[Value.int IntKind.u64 ↑t'] 30)).drewN nq) := (((Only.refl _ _).alloc _).alloc _).drewN _
  have hw : IntKind.u64.wrap ((t' : Int) - (t : Int)) = ((t' - t : Nat) : Int) := by rw [IntWalk.u64_in _ (by omega)]; omega
  refine region_tail 14 (by kernel_rfl) (by kernel_rfl) ?_
  simp only [List.take_succ_cons, List.take_zero, List.drop_succ_cons, List.drop_zero]
  repeat still_step
  still_call (Try.bits_Mul64 r (t' - t) hr (by omega) _)
  clear hw
  repeat still_step
  refine wpStill_nil ?_
  go_wp2_with fail
  have hX : (r : Int) * ((t' - t : Nat) : Int) / 18446744073709551616 * 18446744073709551616 + (r : Int) * ((t' - t : Nat) : Int) % 18446744073709551616 = ((r * (t' - t) : Nat) : Int) := by
    rw [Int.natCast_mul]; omega
  have HN := Lib.hid hN
  clear hN hO
  refine (put_any p r b t k _ _ (r * (t' - t)) _ (HN.out.drew.keep HB.out (fun h => h)) hb hk (by omega) (by omega) (by omega) hX).mono ?_
  clear hX
  rintro e w' ⟨rfl, rfl⟩
  go_wp2
  have hO1 := HN.out.drew
  refine leaves_cons (f := 76) (args := #[.pointer (some ⟨w.heap.size + 1, 0, none⟩), .pointer (some ⟨w.heap.size, 0, none⟩)]) (by simp) (by simp [go_sem]) ?_
  refine (fill_deferred p (w.heap.size + 1) w.heap.size r b t (min b (k + r * (t' - t))) t' .returning _ ?_ ?_ ?_).mono ?_
  · exact setCell_block (hO1.keep HB.out (fun h => h)) 3 _
  · refine (setCell_block_other 3 _ (by omega)).trans ?_
    exact alloc_block_at (w.alloc (Obj.cells #[Value.pointer (some ⟨p, 0, none⟩)] 78)) _ (by simp)
  · refine (setCell_block_other 3 _ (by omega)).trans ?_
    exact (alloc_block_old _ (by simp)).trans (alloc_block_new w _)
  rintro e u' w'' ⟨rfl, rfl, rfl⟩
  refine ⟨_, results_none rfl _ _ _, rfl, ?_, ?_⟩
  · exact setCell_block (setCell_block (hO1.keep HB.out (fun h => h)) 3 _) 2 _
  · refine Only.setCell (Only.setCell ?_ (by simp) _) (by simp) _
    exact (((Only.refl _ _).alloc _).alloc _).drewN _
end Go.Proofs.Ythipfcmjpgbemaa

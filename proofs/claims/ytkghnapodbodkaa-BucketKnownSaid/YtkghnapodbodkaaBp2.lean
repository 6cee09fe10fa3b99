/- The law's 'does' at a When: walked; the three together. -/
import Derived.Test.YtkghnapodbodkaaBp1
namespace Go.Proofs.Ytkghnapodbodkaa
open Go.RowKit

set_option maxHeartbeats 1000000 in
theorem does_when (d : Int) (hd0 : ¬ d = 0) (hd1 : ¬ d = 1) (p : Nat) (B : Bk) (t n : Nat) (w : World) (hB : IsB w p B) (hk : B.Ok) :
    Calls Try.prog 14 #[.pointer (some ⟨p, 0, none⟩), .agg #[.int .u64 B.rate, .int .u64 B.burst, .int .u64 B.tick, .int .u64 B.tok], .agg #[.int .i64 d, .int .u64 t, .int .u64 n]] w fun e w' =>
      e = .returned (.tuple #[.agg B.cells, .bool true]) ∧ IsB w' p B ∧ Only (· = p) w w' := by
  have hd0' : ((d : Int) == 0) = false := by simp [hd0]
  have hd1' : ((d : Int) == 1) = false := by simp [hd1]
  have hf := fun w => rwhen_any B n hk w
  have hl := fun w hB => when_is (B := B) (a := (B.when n).1) (c := (B.when n).2) p n w hB hk rfl
  generalize (B.when n).1 = a at *
  generalize (B.when n).2 = o at *
  have HF := Lib.hid hf
  have HL := Lib.hid hl
  have hlt := hB.lt
  have HB := Lib.hid hB
  clear hf hl hk hd0 hd1 hB
  go_enter Try.func14, Try.ntmps14
  go_wp2_with fail
  refine (HL.out _ (by exact (alloc_block_old _ (by simp; omega)).trans ((alloc_block_old _ (by simp; omega)).trans ((alloc_block_old _ hlt).trans HB.out)))).mono ?_
  rintro e w1 ⟨rfl, hB1, hO⟩
  have q0 : w1.heap[w.heap.size]? = some (.cells #[.int .u64 B.rate, .int .u64 B.burst, .int .u64 B.tick, .int .u64 B.tok] 34) := hO.keep (((alloc_block_old _ (by simp; omega)).trans (alloc_block_old _ (by simp))).trans (alloc_block_new w _)) (fun h => h)
  have q1 : w1.heap[w.heap.size + 1]? = some (.cells #[.int .i64 d, .int .u64 t, .int .u64 n] 40) := hO.keep ((alloc_block_old _ (by simp)).trans (alloc_block_at _ _ (by simp))) (fun h => h)
  have q2 : w1.heap[w.heap.size + 2]? = some (.cells #[.int .u64 0, .int .u64 0, .int .u64 0, .int .u64 0] 34) := hO.keep (alloc_block_at _ _ (by simp)) (fun h => h)
  have hO1 : Only (fun k => k = p ∨ w.heap.size ≤ k) w w1 := ((((Only.refl _ _).alloc _).alloc _).alloc _).trans (hO.mono (fun _ _ h => h.elim))
  have c0 : w1.cell? ⟨w.heap.size, 0, none⟩ = some (.int .u64 B.rate) := cell_of_block q0 0
  have c1 : w1.cell? ⟨w.heap.size, 1, none⟩ = some (.int .u64 B.burst) := cell_of_block q0 1
  have c2 : w1.cell? ⟨w.heap.size, 2, none⟩ = some (.int .u64 B.tick) := cell_of_block q0 2
  have c3 : w1.cell? ⟨w.heap.size, 3, none⟩ = some (.int .u64 B.tok) := cell_of_block q0 3
  have a2 : w1.cell? ⟨w.heap.size + 1, 2, none⟩ = some (.int .u64 n) := cell_of_block q1 2
  have HQ0 := Lib.hid q0
  have HQ2 := Lib.hid q2
  have HB1 := Lib.hid hB1
  have HO1 := Lib.hid hO1
  clear q0 q1 q2 hB1 hO1 hO
  go_wp2_with fail
  refine (HF.out _).mono ?_
  rintro e w2 ⟨rfl, hO⟩
  have q0' := hO.keep HQ0.out (fun h => h)
  have q2' := hO.keep HQ2.out (fun h => h)
  have hB2 : IsB w2 p B := hO.keep HB1.out (fun h => h)
  have hO2 := HO1.out.trans (hO.mono (fun _ _ h => h.elim))
  have e0 : w2.cell? ⟨w.heap.size, 0, none⟩ = some (.int .u64 B.rate) := cell_of_block q0' 0
  have e1 : w2.cell? ⟨w.heap.size, 1, none⟩ = some (.int .u64 B.burst) := cell_of_block q0' 1
  have e2 : w2.cell? ⟨w.heap.size, 2, none⟩ = some (.int .u64 B.tick) := cell_of_block q0' 2
  have e3 : w2.cell? ⟨w.heap.size, 3, none⟩ = some (.int .u64 B.tok) := cell_of_block q0' 3
  clear q0' hO
  have ho : (o == o) = true := by simp
  go_wp2_with (refine wpList_store_blk rfl 34 (.tmp 6) (.tmp 64) rfl (w.heap.size + 1 + 1) _ rfl rfl 34 _ q2' (by kernel_rfl) rfl (by simp [Value.oneCell']) ?_)
  intro w3 hs3
  have q2'' := hs3.blk
  have d0 : w3.cell? ⟨w.heap.size + 1 + 1, 0, none⟩ = some (.int .u64 B.rate) := cell_of_block q2'' 0
  have d1 : w3.cell? ⟨w.heap.size + 1 + 1, 1, none⟩ = some (.int .u64 B.burst) := cell_of_block q2'' 1
  have d2 : w3.cell? ⟨w.heap.size + 1 + 1, 2, none⟩ = some (.int .u64 B.tick) := cell_of_block q2'' 2
  have d3 : w3.cell? ⟨w.heap.size + 1 + 1, 3, none⟩ = some (.int .u64 B.tok) := cell_of_block q2'' 3
  have hB3 : IsB w3 p B := hs3.only.keep hB2 (by omega)
  have HO3 := Lib.hid (hO2.trans (hs3.only.mono (T := fun k => k = p ∨ w.heap.size ≤ k) (fun k _ e => by omega)))
  clear hs3 q2''
  go_wp2
  exact bodyPost_ret (v := .tuple #[.agg #[.int .u64 B.rate, .int .u64 B.burst, .int .u64 B.tick, .int .u64 B.tok], .bool true]) (by simp [results, Try.results14, go_sem, d0, d1, d2, d3]) rfl ⟨rfl, hB3, HO3.out.mono (fun k hk e => by omega)⟩

/-- An act, whatever it is. -/
theorem does_any (d : Int) (p : Nat) (B : Bk) (t n : Nat) (w : World) (hB : IsB w p B) (hk : B.Ok) (ht : t < 18446744073709551616) :
    Calls Try.prog 14 #[.pointer (some ⟨p, 0, none⟩), .agg #[.int .u64 B.rate, .int .u64 B.burst, .int .u64 B.tick, .int .u64 B.tok], .agg #[.int .i64 d, .int .u64 t, .int .u64 n]] w fun e w' =>
      ∃ C : Bk, C.Ok ∧ e = .returned (.tuple #[.agg #[.int .u64 C.rate, .int .u64 C.burst, .int .u64 C.tick, .int .u64 C.tok], .bool true]) ∧ IsB w' p C ∧ Only (· = p) w w' := by
  by_cases h0 : d = 0
  · subst h0
    exact (does_fill p B t n w hB hk ht).mono fun e w' ⟨he, h1, h2⟩ => ⟨_, hk.fill ht, he, h1, h2⟩
  · by_cases h1 : d = 1
    · subst h1
      exact (does_take p B t n w hB hk ht).mono fun e w' ⟨he, h1, h2⟩ => ⟨_, hk.take ht, he, h1, h2⟩
    · exact (does_when d h0 h1 p B t n w hB hk).mono fun e w' ⟨he, h1, h2⟩ => ⟨_, hk, he, h1, h2⟩
end Go.Proofs.Ytkghnapodbodkaa

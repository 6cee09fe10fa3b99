/- The law's 'does': an act on a bucket, and what the reference answers: walked. -/
import Derived.Test.YtkghnapodbodkaaRb2
import Derived.Test.YtkghnapodbodkaaBw6
import Derived.Deep.RegionHeld3
namespace Go.Proofs.Ytkghnapodbodkaa
open Go.RowKit

/-- What an act makes of a bucket. -/
def Bk.act (B : Bk) (d : Int) (t n : Nat) : Bk := if d = 0 then B.fill t else if d = 1 then B.take t n else B

set_option maxHeartbeats 2000000 in
theorem does_fill (p : Nat) (B : Bk) (t n : Nat) (w : World) (hB : IsB w p B) (hk : B.Ok) (ht : t < 18446744073709551616) :
    Calls Try.prog 14 #[.pointer (some ⟨p, 0, none⟩), .agg #[.int .u64 B.rate, .int .u64 B.burst, .int .u64 B.tick, .int .u64 B.tok], .agg #[.int .i64 0, .int .u64 t, .int .u64 n]] w fun e w' =>
      e = .returned (.tuple #[.agg (B.fill t).cells, .bool true]) ∧ IsB w' p (B.fill t) ∧ Only (· = p) w w' := by
  have hf := fun w => rfill_any B t hk ht w
  have hl := fun w hB => level_is (B := B) p t w hB hk ht rfl rfl
  have hok := hk.fill ht
  generalize B.fill t = C at *
  have HF := Lib.hid hf
  have HL := Lib.hid hl
  have hlt := hB.lt
  clear hf hl hk
  go_enter Try.func14, Try.ntmps14
  go_wp2_with fail
  refine (HF.out _).mono ?_
  rintro e w1 ⟨he, hO⟩
  obtain rfl : e = .returned (.agg #[.int .u64 C.rate, .int .u64 C.burst, .int .u64 C.tick, .int .u64 C.tok]) := he
  have q0 : w1.heap[w.heap.size]? = some (.cells #[.int .u64 B.rate, .int .u64 B.burst, .int .u64 B.tick, .int .u64 B.tok] 34) := hO.keep (((alloc_block_old _ (by simp; omega)).trans (alloc_block_old _ (by simp))).trans (alloc_block_new w _)) (fun h => h)
  have q1 : w1.heap[w.heap.size + 1]? = some (.cells #[.int .i64 0, .int .u64 t, .int .u64 n] 40) := hO.keep ((alloc_block_old _ (by simp)).trans (alloc_block_at _ _ (by simp))) (fun h => h)
  have q2 : w1.heap[w.heap.size + 2]? = some (.cells #[.int .u64 0, .int .u64 0, .int .u64 0, .int .u64 0] 34) := hO.keep (alloc_block_at _ _ (by simp)) (fun h => h)
  have hB1 : IsB w1 p B := hO.keep (((alloc_block_old _ (by simp; omega)).trans ((alloc_block_old _ (by simp; omega)).trans (alloc_block_old _ hlt))).trans hB) (fun h => h)
  go_wp2_with (refine wpList_store_blk rfl 34 (.tmp 4) (.tmp 21) rfl w.heap.size _ rfl rfl 34 _ q0 (by kernel_rfl) rfl (by simp [Value.oneCell']) ?_)
  intro w2 hs2
  have q0' := hs2.blk
  have q1' := hs2.only.keep q1 (by omega)
  have q2' := hs2.only.keep q2 (by omega)
  have hB2 : IsB w2 p B := hs2.only.keep hB1 (by omega)
  have c0 : w2.cell? ⟨w.heap.size, 0, none⟩ = some (.int .u64 C.rate) := cell_of_block q0' 0
  have c1 : w2.cell? ⟨w.heap.size, 1, none⟩ = some (.int .u64 C.burst) := cell_of_block q0' 1
  have c2 : w2.cell? ⟨w.heap.size, 2, none⟩ = some (.int .u64 C.tick) := cell_of_block q0' 2
  have c3 : w2.cell? ⟨w.heap.size, 3, none⟩ = some (.int .u64 C.tok) := cell_of_block q0' 3
  have a1 : w2.cell? ⟨w.heap.size + 1, 1, none⟩ = some (.int .u64 t) := cell_of_block q1' 1
  have hO2 : Only (fun k => k = p ∨ w.heap.size ≤ k) w w2 := ((((Only.refl _ _).alloc _).alloc _).alloc _).trans ((hO.mono (fun _ _ h => h.elim)).trans (hs2.only.mono (fun k hk e => by omega)))
  have HQ0 := Lib.hid q0'
  have HQ1 := Lib.hid q1'
  have HQ2 := Lib.hid q2'
  clear q0 q1 q2 q0' q1' q2' hO hs2 hB1 hB
  go_wp2_with fail
  go_region_held3 (fun w' => w'.cell? ⟨w.heap.size, 0, none⟩ = some (.int .u64 C.rate) ∧ w'.cell? ⟨w.heap.size, 1, none⟩ = some (.int .u64 C.burst) ∧ w'.cell? ⟨w.heap.size, 2, none⟩ = some (.int .u64 C.tick) ∧ w'.cell? ⟨w.heap.size, 3, none⟩ = some (.int .u64 C.tok) ∧ w'.cell? ⟨w.heap.size + 1, 1, none⟩ = some (.int .u64 t)) (first | exact ⟨c0, c1, c2, c3, a1⟩ | exact ⟨c0', c1', c2', c3', a1'⟩ | (simp [go_sem, c0', c1', c2', c3', a1']; done))
    (first | (go_at_call 11; refine (HL.out _ (by exact hB2)).mono ?_; rintro e w3 ⟨rfl, hB3, hO3⟩
              have q0' := hO3.keep HQ0.out (by omega)
              have q1' := hO3.keep HQ1.out (by omega)
              have q2' := hO3.keep HQ2.out (by omega)
              have c0' : w3.cell? ⟨w.heap.size, 0, none⟩ = some (.int .u64 C.rate) := cell_of_block q0' 0
              have c1' : w3.cell? ⟨w.heap.size, 1, none⟩ = some (.int .u64 C.burst) := cell_of_block q0' 1
              have c2' : w3.cell? ⟨w.heap.size, 2, none⟩ = some (.int .u64 C.tick) := cell_of_block q0' 2
              have c3' : w3.cell? ⟨w.heap.size, 3, none⟩ = some (.int .u64 C.tok) := cell_of_block q0' 3
              have a1' : w3.cell? ⟨w.heap.size + 1, 1, none⟩ = some (.int .u64 t) := cell_of_block q1' 1
              have d0 : w3.cell? ⟨w.heap.size + 1 + 1, 0, none⟩ = some (.int .u64 0) := cell_of_block q2' 0
              have f0 : w3.frozen? ⟨w.heap.size + 1 + 1, 0, none⟩ = false := free_of_block q2' 0
              have d1 : w3.cell? ⟨w.heap.size + 1 + 1, 1, none⟩ = some (.int .u64 0) := cell_of_block q2' 1
              have f1 : w3.frozen? ⟨w.heap.size + 1 + 1, 1, none⟩ = false := free_of_block q2' 1
              have d2 : w3.cell? ⟨w.heap.size + 1 + 1, 2, none⟩ = some (.int .u64 0) := cell_of_block q2' 2
              have f2 : w3.frozen? ⟨w.heap.size + 1 + 1, 2, none⟩ = false := free_of_block q2' 2
              have d3 : w3.cell? ⟨w.heap.size + 1 + 1, 3, none⟩ = some (.int .u64 0) := cell_of_block q2' 3
              have f3 : w3.frozen? ⟨w.heap.size + 1 + 1, 3, none⟩ = false := free_of_block q2' 3
              clear q0' q1' q2'))
  go_wp2
  refine bodyPost_ret (v := .tuple #[.agg #[.int .u64 C.rate, .int .u64 C.burst, .int .u64 C.tick, .int .u64 C.tok], .bool true]) (by simp [results, Try.results14, go_sem, d0, d1, d2, d3]) rfl ⟨rfl, ?_, ?_⟩
  · exact (setCell_block_other _ _ (by omega)).trans ((setCell_block_other _ _ (by omega)).trans ((setCell_block_other _ _ (by omega)).trans ((setCell_block_other _ _ (by omega)).trans hB3)))
  · have h3 : Only (fun k => k = p ∨ w.heap.size ≤ k) w w3 := hO2.drew.trans (hO3.mono (fun k _ e => Or.inl e))
    refine Only.mono (S := fun k => k = p ∨ w.heap.size ≤ k) ?_ (fun k hk e => by omega)
    refine Only.setCell (Only.setCell (Only.setCell (Only.setCell h3 ?_ _) ?_ _) ?_ _) ?_ _
    all_goals (intro h; simp at h; omega)

set_option maxHeartbeats 2000000 in
theorem does_take (p : Nat) (B : Bk) (t n : Nat) (w : World) (hB : IsB w p B) (hk : B.Ok) (ht : t < 18446744073709551616) :
    Calls Try.prog 14 #[.pointer (some ⟨p, 0, none⟩), .agg #[.int .u64 B.rate, .int .u64 B.burst, .int .u64 B.tick, .int .u64 B.tok], .agg #[.int .i64 1, .int .u64 t, .int .u64 n]] w fun e w' =>
      e = .returned (.tuple #[.agg (B.take t n).cells, .bool true]) ∧ IsB w' p (B.take t n) ∧ Only (· = p) w w' := by
  have hf := fun w => rtake_any B t n hk ht w
  have hl := fun w hB => take_is (B := B) p t n w hB hk ht rfl rfl
  generalize B.take t n = C at *
  generalize B.can t n = c at *
  have HF := Lib.hid hf
  have HL := Lib.hid hl
  have hlt := hB.lt
  clear hf hl hk
  go_enter Try.func14, Try.ntmps14
  go_wp2_with fail
  refine (HF.out _).mono ?_
  rintro e w1 ⟨he, hO⟩
  obtain rfl : e = .returned (.tuple #[.agg #[.int .u64 C.rate, .int .u64 C.burst, .int .u64 C.tick, .int .u64 C.tok], .bool c]) := he
  have q1 : w1.heap[w.heap.size + 1]? = some (.cells #[.int .i64 1, .int .u64 t, .int .u64 n] 40) := hO.keep ((alloc_block_old _ (by simp)).trans (alloc_block_at _ _ (by simp))) (fun h => h)
  have q2 : w1.heap[w.heap.size + 2]? = some (.cells #[.int .u64 0, .int .u64 0, .int .u64 0, .int .u64 0] 34) := hO.keep (alloc_block_at _ _ (by simp)) (fun h => h)
  have hB1 : IsB w1 p B := hO.keep (((alloc_block_old _ (by simp; omega)).trans ((alloc_block_old _ (by simp; omega)).trans (alloc_block_old _ hlt))).trans hB) (fun h => h)
  have hO1 : Only (fun k => k = p ∨ w.heap.size ≤ k) w w1 := ((((Only.refl _ _).alloc _).alloc _).alloc _).trans (hO.mono (fun _ _ h => h.elim))
  have hsz := hO.size
  simp only [World.size_alloc] at hsz
  have a1 : w1.cell? ⟨w.heap.size + 1, 1, none⟩ = some (.int .u64 t) := cell_of_block q1 1
  have a2 : w1.cell? ⟨w.heap.size + 1, 2, none⟩ = some (.int .u64 n) := cell_of_block q1 2
  go_wp2_with fail
  have q0 := alloc_block_new w1 (.cells #[.int .u64 C.rate, .int .u64 C.burst, .int .u64 C.tick, .int .u64 C.tok] 34)
  have q1' := (alloc_block_old (.cells #[.int .u64 C.rate, .int .u64 C.burst, .int .u64 C.tick, .int .u64 C.tok] 34) (lt_of_obj q1)).trans q1
  have q2' := (alloc_block_old (.cells #[.int .u64 C.rate, .int .u64 C.burst, .int .u64 C.tick, .int .u64 C.tok] 34) (lt_of_obj q2)).trans q2
  have hB2 : IsB (w1.alloc (.cells #[.int .u64 C.rate, .int .u64 C.burst, .int .u64 C.tick, .int .u64 C.tok] 34)) p B := (alloc_block_old _ hB1.lt).trans hB1
  have hO2 := hO1.alloc (.cells #[.int .u64 C.rate, .int .u64 C.burst, .int .u64 C.tick, .int .u64 C.tok] 34)
  clear a1 a2 q1 q2 hO hO1 hB1 hB
  generalize w1.alloc (.cells #[.int .u64 C.rate, .int .u64 C.burst, .int .u64 C.tick, .int .u64 C.tok] 34) = w2 at *
  generalize w1.heap.size = g at *
  have c0 : w2.cell? ⟨g, 0, none⟩ = some (.int .u64 C.rate) := cell_of_block q0 0
  have c1 : w2.cell? ⟨g, 1, none⟩ = some (.int .u64 C.burst) := cell_of_block q0 1
  have c2 : w2.cell? ⟨g, 2, none⟩ = some (.int .u64 C.tick) := cell_of_block q0 2
  have c3 : w2.cell? ⟨g, 3, none⟩ = some (.int .u64 C.tok) := cell_of_block q0 3
  have a1 : w2.cell? ⟨w.heap.size + 1, 1, none⟩ = some (.int .u64 t) := cell_of_block q1' 1
  have a2 : w2.cell? ⟨w.heap.size + 1, 2, none⟩ = some (.int .u64 n) := cell_of_block q1' 2
  have HQ0 := Lib.hid q0
  have HQ1 := Lib.hid q1'
  have HQ2 := Lib.hid q2'
  have hg1 : ¬ g = w.heap.size + 1 + 1 := by omega
  clear q0 q1' q2'
  go_region_held3 (fun w' => w'.cell? ⟨g, 0, none⟩ = some (.int .u64 C.rate) ∧ w'.cell? ⟨g, 1, none⟩ = some (.int .u64 C.burst) ∧ w'.cell? ⟨g, 2, none⟩ = some (.int .u64 C.tick) ∧ w'.cell? ⟨g, 3, none⟩ = some (.int .u64 C.tok) ∧ w'.cell? ⟨w.heap.size + 1, 1, none⟩ = some (.int .u64 t) ∧ w'.cell? ⟨w.heap.size + 1, 2, none⟩ = some (.int .u64 n)) (first | exact ⟨c0, c1, c2, c3, a1, a2⟩ | exact ⟨c0', c1', c2', c3', a1', a2'⟩ | (simp [go_sem, c0', c1', c2', c3', a1', a2']; done))
    (first | (go_at_call 10; refine (HL.out _ (by exact hB2)).mono ?_; rintro e w3 ⟨rfl, hB3, hO3⟩
              have q0' := hO3.keep HQ0.out (by omega)
              have q1' := hO3.keep HQ1.out (by omega)
              have q2' := hO3.keep HQ2.out (by omega)
              have c0' : w3.cell? ⟨g, 0, none⟩ = some (.int .u64 C.rate) := cell_of_block q0' 0
              have c1' : w3.cell? ⟨g, 1, none⟩ = some (.int .u64 C.burst) := cell_of_block q0' 1
              have c2' : w3.cell? ⟨g, 2, none⟩ = some (.int .u64 C.tick) := cell_of_block q0' 2
              have c3' : w3.cell? ⟨g, 3, none⟩ = some (.int .u64 C.tok) := cell_of_block q0' 3
              have a1' : w3.cell? ⟨w.heap.size + 1, 1, none⟩ = some (.int .u64 t) := cell_of_block q1' 1
              have a2' : w3.cell? ⟨w.heap.size + 1, 2, none⟩ = some (.int .u64 n) := cell_of_block q1' 2
              have d0 : w3.cell? ⟨w.heap.size + 1 + 1, 0, none⟩ = some (.int .u64 0) := cell_of_block q2' 0
              have f0 : w3.frozen? ⟨w.heap.size + 1 + 1, 0, none⟩ = false := free_of_block q2' 0
              have d1 : w3.cell? ⟨w.heap.size + 1 + 1, 1, none⟩ = some (.int .u64 0) := cell_of_block q2' 1
              have f1 : w3.frozen? ⟨w.heap.size + 1 + 1, 1, none⟩ = false := free_of_block q2' 1
              have d2 : w3.cell? ⟨w.heap.size + 1 + 1, 2, none⟩ = some (.int .u64 0) := cell_of_block q2' 2
              have f2 : w3.frozen? ⟨w.heap.size + 1 + 1, 2, none⟩ = false := free_of_block q2' 2
              have d3 : w3.cell? ⟨w.heap.size + 1 + 1, 3, none⟩ = some (.int .u64 0) := cell_of_block q2' 3
              have f3 : w3.frozen? ⟨w.heap.size + 1 + 1, 3, none⟩ = false := free_of_block q2' 3
              clear q0' q1' q2'))
  go_wp2
  refine bodyPost_ret (v := .tuple #[.agg #[.int .u64 C.rate, .int .u64 C.burst, .int .u64 C.tick, .int .u64 C.tok], .bool true]) (by simp [results, Try.results14, go_sem, d0, d1, d2, d3]) rfl ⟨rfl, ?_, ?_⟩
  · exact (setCell_block_other _ _ (by omega)).trans ((setCell_block_other _ _ (by omega)).trans ((setCell_block_other _ _ (by omega)).trans ((setCell_block_other _ _ (by omega)).trans hB3)))
  · have h3 : Only (fun k => k = p ∨ w.heap.size ≤ k) w w3 := hO2.drew.trans (hO3.mono (fun k _ e => Or.inl e))
    refine Only.mono (S := fun k => k = p ∨ w.heap.size ≤ k) ?_ (fun k hk e => by omega)
    refine Only.setCell (Only.setCell (Only.setCell (Only.setCell h3 ?_ _) ?_ _) ?_ _) ?_ _
    all_goals (intro h; simp at h; omega)

end Go.Proofs.Ytkghnapodbodkaa

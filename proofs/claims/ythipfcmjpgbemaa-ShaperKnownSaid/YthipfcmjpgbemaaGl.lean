/- The document's bucket, walked: Plus, Times, Fill. -/
import Derived.Test.YthipfcmjpgbemaaGb
import Derived.Laws.ResultCell
import Derived.Test.YthipfcmjpgbemaaGa
namespace Go.Proofs.Ythipfcmjpgbemaa
open Go.RowKit

theorem most_any (w : World) : Calls Try.prog 79 #[] w fun e w' => e = .returned (.int .u64 18446744073709551615) ∧ w' = w := by
  go_enter Try.func79, Try.ntmps79
  go_wp2
  go_ret
  exact ⟨rfl, rfl⟩

theorem plus_any (a b : Nat) (ha : a < 18446744073709551616) (hb : b < 18446744073709551616) (w : World) :
    Calls Try.prog 74 #[.int .u64 a, .int .u64 b] w fun e w' => e = .returned (.int .u64 ((min (a + b) 18446744073709551615 : Nat) : Int)) ∧ w' = w := by
  have ha' : a ≤ 18446744073709551615 := by omega
  have hb' : b ≤ 18446744073709551615 := by omega
  clear ha hb
  by_cases h : a + b ≤ 18446744073709551615
  · rw [Nat.min_eq_left h]
    go_enter Try.func74, Try.ntmps74
    go_wp2_with (go_at_call 79; refine (most_any _).mono ?_; rintro e w' ⟨rfl, rfl⟩)
    go_ret
    exact ⟨rfl, rfl⟩
  · rw [Nat.min_eq_right (by omega)]
    go_enter Try.func74, Try.ntmps74
    go_wp2_with (go_at_call 79; refine (most_any _).mono ?_; rintro e w' ⟨rfl, rfl⟩)
    go_ret
    exact ⟨rfl, rfl⟩

theorem times_any (a b : Nat) (ha : a < 18446744073709551616) (hb : b < 18446744073709551616) (w : World) :
    Calls Try.prog 75 #[.int .u64 a, .int .u64 b] w fun e w' => e = .returned (.int .u64 ((min (a * b) 18446744073709551615 : Nat) : Int)) ∧ w' = w := by
  have ha' : a ≤ 18446744073709551615 := by omega
  have hb' : b ≤ 18446744073709551615 := by omega
  clear ha hb
  by_cases h0 : a = 0
  · subst h0
    rw [Nat.zero_mul]
    go_enter Try.func75, Try.ntmps75
    go_wp2_with (go_at_call 79; refine (most_any _).mono ?_; rintro e w' ⟨rfl, rfl⟩)
    go_ret
    exact ⟨rfl, rfl⟩
  · have hpos : 1 ≤ a := by omega
    have hd : ((0 : Int) < (a : Int)) := by omega
    clear h0
    by_cases h : a * b ≤ 18446744073709551615
    · rw [Nat.min_eq_left h]
      have hq : b ≤ 18446744073709551615 / a := (Nat.le_div_iff_mul_le hpos).2 (by rw [Nat.mul_comm]; exact h)
      have hm : (a : Int) * (b : Int) ≤ 18446744073709551615 := by rw [← Int.natCast_mul]; omega
      have hm0 : 0 ≤ (a : Int) * (b : Int) := Int.mul_nonneg (by omega) (by omega)
      have he : ((18446744073709551615 / a : Nat) : Int) = 18446744073709551615 / (a : Int) := Int.natCast_ediv _ _
      have hq' : (b : Int) ≤ 18446744073709551615 / (a : Int) := by rw [← he]; omega
      clear h hq he
      go_enter Try.func75, Try.ntmps75
      go_wp2_with (go_at_call 79; refine (most_any _).mono ?_; rintro e w' ⟨rfl, rfl⟩)
      go_ret
      exact ⟨ret_int (Int.natCast_mul a b).symm, rfl⟩
    · rw [Nat.min_eq_right (by omega)]
      have hq : ¬ b ≤ 18446744073709551615 / a := fun hle => h (by have := (Nat.le_div_iff_mul_le hpos).1 hle; rw [Nat.mul_comm]; exact this)
      have he : ((18446744073709551615 / a : Nat) : Int) = 18446744073709551615 / (a : Int) := Int.natCast_ediv _ _
      have hq' : 18446744073709551615 / (a : Int) < (b : Int) := by rw [← he]; omega
      clear h hq he
      go_enter Try.func75, Try.ntmps75
      go_wp2_with (go_at_call 79; refine (most_any _).mono ?_; rintro e w' ⟨rfl, rfl⟩)
      go_ret
      exact ⟨rfl, rfl⟩

theorem agg4_eq {a b c : Value} {k : IntKind} {x y : Int} (h : x = y) : Ending.returned (.agg #[a, b, c, .int k x]) = Ending.returned (.agg #[a, b, c, .int k y]) := by rw [h]

/-- At most the greatest number. -/
def sat (n : Nat) : Nat := min n 18446744073709551615
theorem sat_lt (n : Nat) : sat n < 18446744073709551616 := by unfold sat; omega
theorem times_sat (a b : Nat) (ha : a < 18446744073709551616) (hb : b < 18446744073709551616) (w : World) :
    Calls Try.prog 75 #[.int .u64 a, .int .u64 b] w fun e w' => e = .returned (.int .u64 (sat (a * b) : Nat)) ∧ w' = w := times_any a b ha hb w
theorem plus_sat (a b : Nat) (ha : a < 18446744073709551616) (hb : b < 18446744073709551616) (w : World) :
    Calls Try.prog 74 #[.int .u64 a, .int .u64 b] w fun e w' => e = .returned (.int .u64 (sat (a + b) : Nat)) ∧ w' = w := plus_any a b ha hb w

theorem rfill_le (r b s k t : Nat) (h : t ≤ s) (w : World) :
    Calls Try.prog 70 #[.agg #[.int .u64 r, .int .u64 b, .int .u64 s, .int .u64 k], .int .u64 t] w fun e w' =>
      e = .returned (.agg #[.int .u64 r, .int .u64 b, .int .u64 s, .int .u64 k]) ∧ Only (fun _ => False) w w' := by
  go_enter Try.func70, Try.ntmps70
  go_wp2
  exact bodyPost_ret (v := .agg #[.int .u64 r, .int .u64 b, .int .u64 s, .int .u64 k]) (by simp [results, Try.results70, go_sem]) rfl ⟨rfl, ((Only.refl _ _).alloc _).alloc _⟩

set_option maxRecDepth 100000 in
theorem rfill_gt (r b s k t : Nat) (hr : r < 18446744073709551616) (hb : b < 18446744073709551616) (hk : k ≤ b) (ht : t < 18446744073709551616) (h : s < t) (w : World) :
    Calls Try.prog 70 #[.agg #[.int .u64 r, .int .u64 b, .int .u64 s, .int .u64 k], .int .u64 t] w fun e w' =>
      e = .returned (.agg #[.int .u64 r, .int .u64 b, .int .u64 t, .int .u64 ((min b (k + r * (t - s)) : Nat) : Int)]) ∧ Only (fun _ => False) w w' := by
  go_enter Try.func70, Try.ntmps70
  go_wp2_with fail
  have hw : IntKind.u64.wrap ((t : Int) - (s : Int)) = ((t - s : Nat) : Int) := by rw [IntWalk.u64_in _ (by omega)]; omega
  refine region_tail 13 (by kernel_rfl) (by kernel_rfl) ?_
  simp only [List.take_succ_cons, List.take_zero, List.drop_succ_cons, List.drop_zero]
  repeat still_step
  still_call (times_sat r (t - s) hr (by omega) _)
  clear hw
  repeat still_step
  still_call (plus_sat k (sat (r * (t - s))) (by omega) (sat_lt _) _)
  repeat still_step
  refine wpStill_nil ?_
  go_wp2_with fail
  · exact bodyPost_ret (v := .agg #[.int .u64 r, .int .u64 b, .int .u64 t, .int .u64 (sat (k + sat (r * (t - s))) : Nat)]) (by simp [results, Try.results70, go_sem]) rfl
      ⟨agg4_eq (by unfold sat at *; omega), (((Only.refl _ _).alloc _).alloc _).drew⟩
  · exact bodyPost_ret (v := .agg #[.int .u64 r, .int .u64 b, .int .u64 t, .int .u64 b]) (by simp [results, Try.results70, go_sem]) rfl
      ⟨agg4_eq (by unfold sat at *; omega), (((Only.refl _ _).alloc _).alloc _).drew⟩

theorem rfill_any (B : Bk) (t : Nat) (hk : B.Ok) (ht : t < 18446744073709551616) (w : World) :
    Calls Try.prog 70 #[.agg B.cells, .int .u64 t] w fun e w' => e = .returned (.agg (B.fill t).cells) ∧ Only (fun _ => False) w w' := by
  by_cases h : t ≤ B.tick
  · rw [Bk.fill_le h]
    exact rfill_le _ _ _ _ t h w
  · rw [Bk.fill_gt h]
    exact rfill_gt _ _ _ _ t hk.rate hk.burst hk.tok ht (by omega) w
end Go.Proofs.Ythipfcmjpgbemaa

/- The document's bucket, walked: New, Take, When. -/
namespace Go.Proofs.Ythipfcmjpgbemaa
open Go.RowKit

theorem rnew_any (r b t : Nat) (w : World) :
    Calls Try.prog 35 #[.int .u64 r, .int .u64 b, .int .u64 t] w fun e w' =>
      e = .returned (.agg #[.int .u64 r, .int .u64 b, .int .u64 t, .int .u64 b]) ∧ Only (fun _ => False) w w' := by
  go_enter Try.func35, Try.ntmps35
  go_wp2
  exact bodyPost_ret (v := .agg #[.int .u64 r, .int .u64 b, .int .u64 t, .int .u64 b]) (by simp [results, Try.results35, go_sem]) rfl ⟨rfl, (Only.refl _ _).alloc _⟩

theorem rtake_any (B : Bk) (t n : Nat) (hk : B.Ok) (ht : t < 18446744073709551616) (w : World) :
    Calls Try.prog 61 #[.agg #[.int .u64 B.rate, .int .u64 B.burst, .int .u64 B.tick, .int .u64 B.tok], .int .u64 t, .int .u64 n] w fun e w' =>
      e = .returned (.tuple #[.agg (B.take t n).cells, .bool (B.can t n)]) ∧ Only (fun _ => False) w w' := by
  have hf := fun w => rfill_any B t hk ht w
  have hok := hk.fill ht
  by_cases hle : n ≤ (B.fill t).tok
  · rw [Bk.can_yes hle, Bk.take_yes hle]
    generalize B.fill t = C at *
    have hb1 := hok.burst
    have hb2 := hok.tok
    have HF := Lib.hid hf
    clear hf hk hok
    go_enter Try.func61, Try.ntmps61
    go_wp2_with fail
    refine (HF.out _).mono ?_
    rintro e w1 ⟨he, hO⟩
    have he' : e = .returned (.agg #[.int .u64 C.rate, .int .u64 C.burst, .int .u64 C.tick, .int .u64 C.tok]) := he
    subst he'
    clear he
    have q0 : w1.heap[w.heap.size]? = some (.cells #[.int .u64 B.rate, .int .u64 B.burst, .int .u64 B.tick, .int .u64 B.tok] 109) := hO.keep ((alloc_block_old _ (by simp)).trans (alloc_block_new w _)) (fun h => h)
    have q1 : w1.heap[w.heap.size + 1]? = some (.cells #[.int .u64 0, .int .u64 0, .int .u64 0, .int .u64 0] 109) := hO.keep (alloc_block_at _ _ (by simp)) (fun h => h)
    go_wp2_with (refine wpList_store_blk rfl 109 (.tmp 3) (.tmp 10) rfl w.heap.size _ rfl rfl 109 _ q0 (by kernel_rfl) rfl (by simp [Value.oneCell']) ?_)
    intro w2 hs2
    have q0' := hs2.blk
    have q1' := hs2.only.keep q1 (by simp)
    have c0 : w2.cell? ⟨w.heap.size, 0, none⟩ = some (.int .u64 C.rate) := cell_of_block q0' 0
    have c1 : w2.cell? ⟨w.heap.size, 1, none⟩ = some (.int .u64 C.burst) := cell_of_block q0' 1
    have c2 : w2.cell? ⟨w.heap.size, 2, none⟩ = some (.int .u64 C.tick) := cell_of_block q0' 2
    have c3 : w2.cell? ⟨w.heap.size, 3, none⟩ = some (.int .u64 C.tok) := cell_of_block q0' 3
    have f3 : w2.frozen? ⟨w.heap.size, 3, none⟩ = false := free_of_block q0' 3
    have hO2 : Only (fun k => w.heap.size ≤ k) w w2 := ((((Only.refl _ _).alloc _).alloc _).trans ((hO.mono (fun _ _ h => h.elim)).trans (hs2.only.mono (fun k _ e => by subst e; exact Nat.le_refl _))))
    clear hs2 hO q0' q0
    go_wp2_with (refine wpList_store_blk rfl 109 (.tmp 6) (.tmp 21) rfl (w.heap.size + 1) _ rfl rfl 109 _ ((setCell_block_other 3 _ (by omega)).trans q1') (by kernel_rfl) rfl (by simp [Value.oneCell']) ?_)
    intro w3 hs3
    have q1'' := hs3.blk
    have d0 : w3.cell? ⟨w.heap.size + 1, 0, none⟩ = some (.int .u64 C.rate) := cell_of_block q1'' 0
    have d1 : w3.cell? ⟨w.heap.size + 1, 1, none⟩ = some (.int .u64 C.burst) := cell_of_block q1'' 1
    have d2 : w3.cell? ⟨w.heap.size + 1, 2, none⟩ = some (.int .u64 C.tick) := cell_of_block q1'' 2
    have d3 : w3.cell? ⟨w.heap.size + 1, 3, none⟩ = some (.int .u64 (C.tok - n)) := cell_of_block q1'' 3
    go_wp2
    refine bodyPost_ret (v := .tuple #[.agg #[.int .u64 C.rate, .int .u64 C.burst, .int .u64 C.tick, .int .u64 (C.tok - n)], .bool true]) (by simp [results, Try.results61, go_sem, d0, d1, d2, d3]) rfl ⟨?_, ?_⟩
    · show Ending.returned (.tuple #[.agg #[.int .u64 C.rate, .int .u64 C.burst, .int .u64 C.tick, .int .u64 (C.tok - n)], .bool true]) = Ending.returned (.tuple #[.agg #[.int .u64 C.rate, .int .u64 C.burst, .int .u64 C.tick, .int .u64 ((C.tok - n : Nat) : Int)], .bool true])
      rw [Int.natCast_sub hle]
    · have h3 : Only (fun k => w.heap.size ≤ k) w w3 := (hO2.setCell (fun _ => Nat.le_refl _) _).trans (hs3.only.mono (fun k _ e => by subst e; exact Nat.le_succ _))
      exact h3.mono (fun k hk e => by omega)
  · rw [Bk.can_no hle, Bk.take_no hle]
    generalize B.fill t = C at *
    have hb1 := hok.burst
    have hb2 := hok.tok
    have HF := Lib.hid hf
    clear hf hk hok
    go_enter Try.func61, Try.ntmps61
    go_wp2_with fail
    refine (HF.out _).mono ?_
    rintro e w1 ⟨he, hO⟩
    have he' : e = .returned (.agg #[.int .u64 C.rate, .int .u64 C.burst, .int .u64 C.tick, .int .u64 C.tok]) := he
    subst he'
    clear he
    have q0 : w1.heap[w.heap.size]? = some (.cells #[.int .u64 B.rate, .int .u64 B.burst, .int .u64 B.tick, .int .u64 B.tok] 109) := hO.keep ((alloc_block_old _ (by simp)).trans (alloc_block_new w _)) (fun h => h)
    have q1 : w1.heap[w.heap.size + 1]? = some (.cells #[.int .u64 0, .int .u64 0, .int .u64 0, .int .u64 0] 109) := hO.keep (alloc_block_at _ _ (by simp)) (fun h => h)
    go_wp2_with (refine wpList_store_blk rfl 109 (.tmp 3) (.tmp 10) rfl w.heap.size _ rfl rfl 109 _ q0 (by kernel_rfl) rfl (by simp [Value.oneCell']) ?_)
    intro w2 hs2
    have q0' := hs2.blk
    have q1' := hs2.only.keep q1 (by simp)
    have c0 : w2.cell? ⟨w.heap.size, 0, none⟩ = some (.int .u64 C.rate) := cell_of_block q0' 0
    have c1 : w2.cell? ⟨w.heap.size, 1, none⟩ = some (.int .u64 C.burst) := cell_of_block q0' 1
    have c2 : w2.cell? ⟨w.heap.size, 2, none⟩ = some (.int .u64 C.tick) := cell_of_block q0' 2
    have c3 : w2.cell? ⟨w.heap.size, 3, none⟩ = some (.int .u64 C.tok) := cell_of_block q0' 3
    have hO2 : Only (fun k => w.heap.size ≤ k) w w2 := ((((Only.refl _ _).alloc _).alloc _).trans ((hO.mono (fun _ _ h => h.elim)).trans (hs2.only.mono (fun k _ e => by subst e; exact Nat.le_refl _))))
    clear hs2 hO q0' q0
    go_wp2_with (refine wpList_store_blk rfl 109 (.tmp 6) (.tmp 15) rfl (w.heap.size + 1) _ rfl rfl 109 _ q1' (by kernel_rfl) rfl (by simp [Value.oneCell']) ?_)
    intro w3 hs3
    have q1'' := hs3.blk
    have d0 : w3.cell? ⟨w.heap.size + 1, 0, none⟩ = some (.int .u64 C.rate) := cell_of_block q1'' 0
    have d1 : w3.cell? ⟨w.heap.size + 1, 1, none⟩ = some (.int .u64 C.burst) := cell_of_block q1'' 1
    have d2 : w3.cell? ⟨w.heap.size + 1, 2, none⟩ = some (.int .u64 C.tick) := cell_of_block q1'' 2
    have d3 : w3.cell? ⟨w.heap.size + 1, 3, none⟩ = some (.int .u64 C.tok) := cell_of_block q1'' 3
    go_wp2
    refine bodyPost_ret (v := .tuple #[.agg #[.int .u64 C.rate, .int .u64 C.burst, .int .u64 C.tick, .int .u64 C.tok], .bool false]) (by simp [results, Try.results61, go_sem, d0, d1, d2, d3]) rfl ⟨rfl, ?_⟩
    have h3 : Only (fun k => w.heap.size ≤ k) w w3 := hO2.trans (hs3.only.mono (fun k _ e => by subst e; exact Nat.le_succ _))
    exact h3.mono (fun k hk e => by omega)

theorem rwhen_now (B : Bk) (n : Nat) (h : n ≤ B.tok) (w : World) :
    Calls Try.prog 72 #[.agg #[.int .u64 B.rate, .int .u64 B.burst, .int .u64 B.tick, .int .u64 B.tok], .int .u64 n] w fun e w' =>
      e = .returned (.tuple #[.int .u64 B.tick, .bool true]) ∧ Only (fun _ => False) w w' := by
  go_enter Try.func72, Try.ntmps72
  go_wp2
  go_ret2
  exact ⟨rfl, (Only.refl _ _).alloc _⟩

theorem rwhen_never (B : Bk) (n : Nat) (h : B.tok < n) (hb : B.burst < n ∨ B.rate = 0) (w : World) :
    Calls Try.prog 72 #[.agg #[.int .u64 B.rate, .int .u64 B.burst, .int .u64 B.tick, .int .u64 B.tok], .int .u64 n] w fun e w' =>
      e = .returned (.tuple #[.int .u64 0, .bool false]) ∧ Only (fun _ => False) w w' := by
  by_cases hb' : B.burst < n
  · clear hb
    go_enter Try.func72, Try.ntmps72
    go_wp2
    go_ret2
    exact ⟨rfl, (Only.refl _ _).alloc _⟩
  · have hr : B.rate = 0 := by omega
    clear hb
    obtain ⟨r, b, t, k⟩ := B
    obtain rfl : r = 0 := hr
    have h' : k < n := h
    have hb2 : ¬ b < n := hb'
    clear h hb'
    go_enter Try.func72, Try.ntmps72
    go_wp2
    go_ret2
    exact ⟨rfl, (Only.refl _ _).alloc _⟩

theorem rwhen_later (B : Bk) (n : Nat) (hk : B.Ok) (h : B.tok < n) (hb : ¬ (B.burst < n ∨ B.rate = 0)) (w : World) :
    Calls Try.prog 72 #[.agg #[.int .u64 B.rate, .int .u64 B.burst, .int .u64 B.tick, .int .u64 B.tok], .int .u64 n] w fun e w' =>
      e = .returned (.tuple #[.int .u64 (B.when n).1, .bool (B.when n).2]) ∧ Only (fun _ => False) w w' := by
  have b1 := hk.rate
  have b2 := hk.burst
  have b3 := hk.tick
  have b4 := hk.tok
  have hr : 1 ≤ B.rate := by omega
  have hnb : n ≤ B.burst := by omega
  have H1 : Hid (¬ n ≤ B.tok) := by show ¬ n ≤ B.tok; omega
  have H2 := Lib.hid hb
  have d1 : decide (B.burst < n) = false := by simp; omega
  have d2 : ((B.rate : Int) == 0) = false := by simp; omega
  clear hk hb
  obtain ⟨q, hq⟩ : ∃ q, (n - B.tok) / B.rate = q := ⟨_, rfl⟩
  obtain ⟨m, hm⟩ : ∃ m, (n - B.tok) % B.rate = m := ⟨_, rfl⟩
  have hs : (n : Int) - (B.tok : Int) = ((n - B.tok : Nat) : Int) := by omega
  have hqi : ((n : Int) - (B.tok : Int)) / (B.rate : Int) = (q : Int) := by rw [hs, ← hq]; exact (Int.natCast_ediv _ _).symm
  have hmi : ((n : Int) - (B.tok : Int)) % (B.rate : Int) = (m : Int) := by rw [hs, ← hm]; exact (Int.natCast_emod _ _).symm
  have hql : q ≤ n - B.tok := by rw [← hq]; exact Nat.div_le_self _ _
  have hq1 : 0 < m → q + 1 ≤ n - B.tok := by
    intro h0
    have hsum : n - B.tok = B.rate * q + m := by rw [← hq, ← hm]; exact (Nat.div_add_mod _ _).symm
    have := Nat.le_mul_of_pos_left q hr
    omega
  have hti : B.ticks n = if 0 < m then q + 1 else q := by
    have hsum : n - B.tok = B.rate * q + m := by rw [← hq, ← hm]; exact (Nat.div_add_mod _ _).symm
    have hml : m < B.rate := by rw [← hm]; exact Nat.mod_lt _ (by omega)
    unfold Bk.ticks
    split
    · have e : n - B.tok - 1 = (m - 1) + B.rate * q := by omega
      rw [e, Nat.add_mul_div_left _ _ (by omega), Nat.div_eq_of_lt (by omega)]
      omega
    · have hq1 : 1 ≤ q := by
        rcases Nat.eq_zero_or_pos q with h0 | h0
        · subst h0; simp at hsum; omega
        · exact h0
      obtain ⟨q', rfl⟩ : ∃ q', q = q' + 1 := ⟨q - 1, by omega⟩
      rw [Nat.mul_add, Nat.mul_one] at hsum
      have e : n - B.tok - 1 = (B.rate - 1) + B.rate * q' := by omega
      rw [e, Nat.add_mul_div_left _ _ (by omega), Nat.div_eq_of_lt (by omega)]
      omega
  have hw : IntKind.u64.wrap (18446744073709551615 - (B.tick : Int)) = 18446744073709551615 - (B.tick : Int) := IntWalk.u64_in _ (by omega)
  clear hs hq hm
  by_cases h0 : 0 < m
  · rw [if_pos h0] at hti
    have hq2 := hq1 h0
    clear hq1
    by_cases h2 : B.tick + (q + 1) < 18446744073709551616
    · rw [Bk.when_later H1.out H2.out (by rw [hti]; exact h2), hti]
      clear hti
      go_enter Try.func72, Try.ntmps72
      go_wp2
      go_quiet ((go_at_call 79; exact Calls.quiet_of_same (most_any _)))
      go_wp2
      go_ret2
      exact ⟨ret_ib (by omega), ((Only.refl _ _).alloc _).drewN _⟩
    · rw [Bk.when_past H1.out H2.out (by rw [hti]; exact h2)]
      clear hti
      go_enter Try.func72, Try.ntmps72
      go_wp2
      go_quiet ((go_at_call 79; exact Calls.quiet_of_same (most_any _)))
      go_wp2
      go_ret2
      exact ⟨rfl, ((Only.refl _ _).alloc _).drewN _⟩
  · rw [if_neg h0] at hti
    have h0' : m ≤ 0 := by omega
    clear h0 hq1
    by_cases h2 : B.tick + q < 18446744073709551616
    · rw [Bk.when_later H1.out H2.out (by rw [hti]; exact h2), hti]
      clear hti
      go_enter Try.func72, Try.ntmps72
      go_wp2
      go_quiet ((go_at_call 79; exact Calls.quiet_of_same (most_any _)))
      go_wp2
      go_ret2
      exact ⟨ret_ib (by omega), ((Only.refl _ _).alloc _).drewN _⟩
    · rw [Bk.when_past H1.out H2.out (by rw [hti]; exact h2)]
      clear hti
      go_enter Try.func72, Try.ntmps72
      go_wp2
      go_quiet ((go_at_call 79; exact Calls.quiet_of_same (most_any _)))
      go_wp2
      go_ret2
      exact ⟨rfl, ((Only.refl _ _).alloc _).drewN _⟩

theorem rwhen_any (B : Bk) (n : Nat) (hk : B.Ok) (w : World) :
    Calls Try.prog 72 #[.agg #[.int .u64 B.rate, .int .u64 B.burst, .int .u64 B.tick, .int .u64 B.tok], .int .u64 n] w fun e w' =>
      e = .returned (.tuple #[.int .u64 (B.when n).1, .bool (B.when n).2]) ∧ Only (fun _ => False) w w' := by
  by_cases hn : n ≤ B.tok
  · rw [Bk.when_now hn]
    exact rwhen_now B n hn w
  · by_cases hb : B.burst < n ∨ B.rate = 0
    · rw [Bk.when_never hn hb]
      exact rwhen_never B n (by omega) hb w
    · exact rwhen_later B n hk (by omega) hb w
end Go.Proofs.Ythipfcmjpgbemaa

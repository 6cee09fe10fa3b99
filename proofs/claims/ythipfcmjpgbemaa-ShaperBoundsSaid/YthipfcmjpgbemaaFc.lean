/- Clear, walked. -/
import Derived.Test.YthipfcmjpgbemaaFw
namespace Go.Proofs.Ythipfcmjpgbemaa
open Go.RowKit

/-- The queue without its items. -/
def cleared (Q : QS) : QS := { Q with L := [] }

theorem setCells_blk {b : Nat} {e : TypeId} : ∀ (vs : List Value) (o : Nat) {w : World} {cs : Array Value}, w.heap[b]? = some (.cells cs e (0, 0)) →
    (∃ cs' : Array Value, (w.setCells b o vs).heap[b]? = some (.cells cs' e (0, 0)) ∧ cs'.size = cs.size) ∧ Only (· = b) w (w.setCells b o vs) ∧ (w.setCells b o vs).heap.size = w.heap.size
  | [], _, w, cs, h => ⟨⟨cs, h, rfl⟩, Only.refl _ _, rfl⟩
  | v :: r, o, w, cs, h => by
    have h1 := setCell_block h o v
    obtain ⟨⟨cs', h2, h3⟩, h4, h5⟩ := setCells_blk r (o + 1) h1
    exact ⟨⟨cs', h2, by rw [h3]; simp⟩, (Only.setCell (p := ⟨b, o, none⟩) (Only.refl (· = b) w) (fun _ => rfl) v).trans h4, by rw [World.setCells, h5]; simp [World.setCell]⟩

theorem run_clear3 {w : World} {g n c : Nat} {xs : List Value} (h : w.ownsRow 0 34 3 (.slice (some ⟨g, 0, none⟩) n c) n xs) (hn : 0 < n) :
    ∃ w' xs', (∀ ty, (Builtin.clear_ #[49] ty #[.slice (some ⟨g, 0, none⟩) n c]).run Try.prog w = .ok (.tuple #[]) w') ∧ w'.ownsRow 0 34 3 (.slice (some ⟨g, 0, none⟩) n c) n xs' ∧ Only (· = g) w w' ∧ w'.heap.size = w.heap.size := by
  obtain ⟨i0, hi, hz0, hz1, hz2⟩ := info_parts info_item
  rcases h.2 with ⟨_, h0⟩ | ⟨g2, cap2, cur, hv, hg, hh, hnc, hcm, hcs, hx⟩
  · omega
  · injection hv with e1 _ e3
    injection e1 with e1
    injection e1 with e1
    subst e1 e3
    obtain ⟨vs, hvs⟩ : ∃ vs, (Builtin.zeroCells (Value.agg #[.int .u64 0, .int .i64 0, .slice none 0 0]).cells n).toList = vs := ⟨_, rfl⟩
    have hlen : vs.length = n * 3 := by rw [← hvs]; simp [Builtin.zeroCells, Value.cells]
    have hone : ∀ v ∈ vs, v.oneCell' = true := by
      intro v hm
      rw [← hvs] at hm
      simp only [Builtin.zeroCells, Array.toList_map, List.mem_map] at hm
      obtain ⟨i, _, rfl⟩ := hm
      have h3 : i % 3 < 3 := Nat.mod_lt _ (by omega)
      show ((Value.agg #[.int .u64 0, .int .i64 0, .slice none 0 0]).cells[i % (Value.agg #[.int .u64 0, .int .i64 0, .slice none 0 0]).cells.size]!).oneCell' = true
      have h4 : (Value.agg #[.int .u64 0, .int .i64 0, .slice none 0 0]).cells = #[.int .u64 0, .int .i64 0, .slice none 0 0] := by simp [Value.cells]
      rw [h4]
      generalize hk : i % (#[Value.int .u64 0, .int .i64 0, .slice none 0 0] : Array Value).size = k
      have hk3 : k < 3 := by rw [← hk]; exact h3
      rcases k with _ | _ | _ | k
      · rfl
      · rfl
      · rfl
      · omega
    have hst := run_storeCells_cells (P := Try.prog) g 0 vs 0 w (fun j hj => by
        rw [show 0 + 0 + j = j by omega, cell_of_block hh j]
        simp only [Array.getElem?_eq_getElem (show j < cur.size by rw [hcs]; have := Nat.mul_le_mul_right 3 hnc; omega)]
        rfl) (fun j _ => free_of_block hh _) hone
    simp only [Nat.add_zero] at hst
    obtain ⟨⟨cs', hb', hs'⟩, hO, hsz⟩ := setCells_blk vs 0 hh
    refine ⟨w.setCells g 0 vs, cs'.toList.take (n * 3), fun ty => ?_, ⟨?_, .inr ⟨g, c, cs', rfl, hg, hb', hnc, hcm, by rw [hs', hcs], rfl⟩⟩, hO, hsz⟩
    · obtain ⟨m, rfl⟩ : ∃ m, n = m + 1 := ⟨n - 1, by omega⟩
      have hzv : ∀ w, (zeroValue 34).run Try.prog w = .ok (.agg #[.int .u64 0, .int .i64 0, .slice none 0 0]) w := fun w => by simp [zeroValue, typeInfo, hi, hz0]
      simp [Builtin.clear_, run_underlying (P := Try.prog) Try.underlying49, hzv, hvs, hst]
    · have := Nat.mul_le_mul_right 3 hnc
      simp [hs', hcs]
      omega

theorem clear_empty {w : World} {p : Nat} {r : Nat → Nat} {Q : QS} {rv : Value} {f n : Nat} {xs : List Value} (h : IsQ w p r Q rv f n xs) (h0 : Q.L = []) :
    Calls Try.prog 45 #[.pointer (some ⟨p, 0, none⟩)] w fun e w' => e = .returned (.int .i64 0) ∧ w' = w := by
  have hl := len_is h
  rw [h0] at hl
  have HL := Lib.hid hl
  clear hl h h0
  go_enter Try.func45, Try.ntmps45
  go_wp2_with fail
  refine HL.out.mono ?_
  rintro e w' ⟨rfl, rfl⟩
  go_wp2_with fail
  go_ret
  exact ⟨rfl, rfl⟩

theorem clear_end {w w1 w2 : World} {p : Nat} {r : Nat → Nat} {Q : QS} {g cap f n : Nat} {xs xs' : List Value} (hQ : IsQ w p r Q (.slice (some ⟨g, 0, none⟩) n cap) f n xs) (hn : 0 < n)
    (hrow : w1.ownsRow 0 34 3 (.slice (some ⟨g, 0, none⟩) n cap) n xs') (hO1 : Only (· = g) w w1) (hO2 : Only (· = p) w1 w2)
    (hb : w2.heap[p]? = some (.cells #[.slice (some ⟨g, 0, none⟩) n cap, .int .i64 (0 : Nat), .int .i64 (0 : Nat), .int .i64 (0 : Nat), .int .i64 Q.items, .int .i64 Q.bound, .int .u64 Q.drops] 120 (0, 0))) :
    IsQ w2 p r (cleared Q) (.slice (some ⟨g, 0, none⟩) n cap) 0 n xs' ∧ Only (fun k => r k ≠ 0) w w2 := by
  have hrg : r g = 2 := hQ.rr g rfl
  have hO : Only (fun k => r k ≠ 0) w w2 := (hO1.mono (fun k _ e => by subst e; rw [hrg]; decide)).trans (hO2.mono (fun k _ e => by subst e; rw [hQ.rp]; decide))
  refine ⟨⟨hb, own_only hrow hO2 (fun k hk e => ?_), fun i x hx => by simp [cleared] at hx, .inl hn, Nat.zero_le _, hQ.cap, Nat.zero_le _, hQ.items, Nat.zero_le _, hQ.bound, fun x hx => by simp [cleared] at hx, hQ.rp, hQ.rr, fun k hk => Nat.lt_of_lt_of_le (hQ.lt k hk) hO.size⟩, hO⟩
  have h1 : g = k := by injection hk
  have h2 := hQ.rp
  rw [e] at h1
  rw [h1] at hrg
  omega

set_option maxRecDepth 100000 in
theorem clear_some {w : World} {p : Nat} {r : Nat → Nat} {Q : QS} {rv : Value} {f n : Nat} {xs : List Value} (hQ : IsQ w p r Q rv f n xs) (h0 : 0 < Q.L.length) :
    Calls Try.prog 45 #[.pointer (some ⟨p, 0, none⟩)] w fun e w' => e = .returned (.int .i64 Q.L.length) ∧ Que w' p r (cleared Q) ∧ Only (fun k => r k ≠ 0) w w' := by
  have hn : 0 < n := Nat.lt_of_lt_of_le h0 hQ.room
  obtain ⟨g, cap, rfl, _, hg⟩ := own_slice hQ.ring hn
  obtain ⟨w1, xs', hrun, hrow, hO1, hsz⟩ := run_clear3 hQ.ring hn
  have hne : ¬ p = g := fun e => by have h1 := hQ.rr g rfl; have h2 := hQ.rp; rw [e] at h2; omega
  have hb1 := hO1.keep hQ.blk hne
  have hl := len_is hQ
  have c0 := hQ.c0
  have f1 := free_of_block hb1 1
  have f2 := free_of_block hb1 2
  have f3 := free_of_block hb1 3
  have c1 := cell_of_block hb1 1
  have c2 := cell_of_block hb1 2
  have c3 := cell_of_block hb1 3
  dsimp at c1 c2 c3
  have hpos : (0 : Int) < (Q.L.length : Int) := by omega
  have HQ := Lib.hid hQ
  have HL := Lib.hid hl
  have HR := Lib.hid hrow
  have HO := Lib.hid hO1
  have HB := Lib.hid hb1
  have HN := Lib.hid hn
  clear hQ hl hrow hO1 hb1 hn hne hg h0 hsz
  go_enter Try.func45, Try.ntmps45
  go_wp2_with fail
  refine HL.out.mono ?_
  rintro e w' ⟨rfl, rfl⟩
  go_wp2_with fail
  go_ret
  have hb2 := setCell_block (setCell_block (setCell_block HB.out 1 (.int .i64 0)) 2 (.int .i64 0)) 3 (.int .i64 0)
  have hO2 : Only (· = p) w1 (((w1.setCell ⟨p, 1, none⟩ (.int .i64 0)).setCell ⟨p, 2, none⟩ (.int .i64 0)).setCell ⟨p, 3, none⟩ (.int .i64 0)) :=
    Only.setCell (p := ⟨p, 3, none⟩) (Only.setCell (p := ⟨p, 2, none⟩) (Only.setCell (p := ⟨p, 1, none⟩) (Only.refl (· = p) w1) (fun _ => rfl) _) (fun _ => rfl) _) (fun _ => rfl) _
  obtain ⟨h1, h2⟩ := clear_end HQ.out HN.out HR.out HO.out hO2 hb2
  exact ⟨rfl, ⟨_, _, _, _, h1⟩, h2⟩

/-- Clear, of any queue. -/
theorem clear_q {w : World} {p : Nat} {r : Nat → Nat} {Q : QS} (h : Que w p r Q) :
    Calls Try.prog 45 #[.pointer (some ⟨p, 0, none⟩)] w fun e w' => e = .returned (.int .i64 Q.L.length) ∧ Que w' p r (cleared Q) ∧ Only (fun k => r k ≠ 0) w w' := by
  obtain ⟨rv, f, n, xs, hQ⟩ := h
  rcases Nat.eq_zero_or_pos Q.L.length with h0 | h0
  · have he : Q.L = [] := List.eq_nil_of_length_eq_zero h0
    refine (clear_empty hQ he).mono ?_
    rintro e w' ⟨rfl, rfl⟩
    have hc : cleared Q = Q := by obtain ⟨L, a, b, c⟩ := Q; simp [cleared] at he ⊢; exact he
    rw [hc, h0]
    exact ⟨rfl, ⟨_, _, _, _, hQ⟩, Only.refl _ _⟩
  · exact clear_some hQ h0
end Go.Proofs.Ythipfcmjpgbemaa

/- Push where there is room, walked. -/
import Derived.Test.YthipfcmjpgbemaaFq6
import Derived.RegionTactic
namespace Go.Proofs.Ythipfcmjpgbemaa
open Go.RowKit

theorem sumQ_snoc (L : List It) (x : It) : sumQ (L ++ [x]) = sumQ L + x.size := by simp [sumQ]

/-- A queue behind a push. -/
def pushed (Q : QS) (x : It) : QS := { Q with L := Q.L ++ [x] }

/-- Ahead of the stores: there is a place for one more; the item lies in block g. -/
def PRoom (w : World) (p : Nat) (r : Nat → Nat) (Q : QS) (g : Nat) (no sz : Nat) (y : Value) (wc : World) : Prop :=
  ∃ r' rv' f' n' xs', IsQ wc p r' Q rv' f' n' xs' ∧ Q.L.length < n' ∧ Only (fun k => r k ≠ 0) w wc ∧ (∀ k, r' k ≠ 0 → r k ≠ 0 ∨ w.heap.size ≤ k) ∧ wc.heap[g]? = some (.cells #[.int .u64 no, .int .i64 sz, y] 34 (0, 0)) ∧ r' g = 0

/-- What is stored in a row's three cells. -/
def set3 (xs : List Value) (o : Nat) (a b c : Value) : List Value := ((xs.set o a).set (o + 1) b).set (o + 2) c
theorem set3_len (xs : List Value) (o : Nat) (a b c : Value) : (set3 xs o a b c).length = xs.length := by simp [set3]
theorem set3_other {xs : List Value} {o j : Nat} {a b c : Value} (h : j < o ∨ o + 2 < j) : (set3 xs o a b c)[j]? = xs[j]? := by
  unfold set3
  rw [List.getElem?_set_ne (by omega), List.getElem?_set_ne (by omega), List.getElem?_set_ne (by omega)]
theorem set3_0 {xs : List Value} {o : Nat} {a b c : Value} (h : o + 2 < xs.length) : (set3 xs o a b c)[o]? = some a := by
  unfold set3
  rw [List.getElem?_set_ne (by omega), List.getElem?_set_ne (by omega), List.getElem?_set_self (by omega)]
theorem set3_1 {xs : List Value} {o : Nat} {a b c : Value} (h : o + 2 < xs.length) : (set3 xs o a b c)[o + 1]? = some b := by
  unfold set3
  rw [List.getElem?_set_ne (by omega), List.getElem?_set_self (by simp; omega)]
theorem set3_2 {xs : List Value} {o : Nat} {a b c : Value} (h : o + 2 < xs.length) : (set3 xs o a b c)[o + 2]? = some c := by
  unfold set3
  rw [List.getElem?_set_self (by simp; omega)]

theorem set3_row {w : World} {g : Nat} {cap n o : Nat} {xs : List Value} (h : w.ownsRow 0 34 3 (.slice (some ⟨g, 0, none⟩) n cap) n xs) (ho : o + 2 < n * 3) (a b c : Value) :
    (((w.setCell ⟨g, o, none⟩ a).setCell ⟨g, o + 1, none⟩ b).setCell ⟨g, o + 2, none⟩ c).ownsRow 0 34 3 (.slice (some ⟨g, 0, none⟩) n cap) n (set3 xs o a b c) ∧ Only (· = g) w (((w.setCell ⟨g, o, none⟩ a).setCell ⟨g, o + 1, none⟩ b).setCell ⟨g, o + 2, none⟩ c) := by
  have hO : Only (· = g) w (((w.setCell ⟨g, o, none⟩ a).setCell ⟨g, o + 1, none⟩ b).setCell ⟨g, o + 2, none⟩ c) :=
    Only.setCell (p := ⟨g, o + 2, none⟩) (Only.setCell (p := ⟨g, o + 1, none⟩) (Only.setCell (p := ⟨g, o, none⟩) (Only.refl (· = g) w) (fun _ => rfl) _) (fun _ => rfl) _) (fun _ => rfl) _
  refine ⟨⟨by rw [set3_len]; exact h.1, ?_⟩, hO⟩
  rcases h.2 with ⟨_, h0⟩ | ⟨g2, cap2, cur, hv, hg, hh, hnc, hcm, hcs, hx⟩
  · omega
  · injection hv with e1 _ e3
    injection e1 with e1
    injection e1 with e1
    subst e1 e3
    have hk := setCell_block (setCell_block (setCell_block hh o a) (o + 1) b) (o + 2) c
    refine .inr ⟨g, cap, _, rfl, hg, hk, hnc, hcm, by simp [hcs], ?_⟩
    rw [Array.toList_setIfInBounds, Array.toList_setIfInBounds, Array.toList_setIfInBounds, List.take_set, List.take_set, List.take_set, hx]
    rfl

theorem push_end {w wc w2 w4 : World} {p : Nat} {r r' : Nat → Nat} {Q : QS} {g2 cap f' n' : Nat} {xs' : List Value} (x : It) {v : Value} (hQ : IsQ wc p r' Q (.slice (some ⟨g2, 0, none⟩) n' cap) f' n' xs') (hlt : Q.L.length < n') (hOw : Only (fun k => r k ≠ 0) w wc)
    (hr : ∀ k, r' k ≠ 0 → r k ≠ 0 ∨ w.heap.size ≤ k) (hrp : r p = 1) (hwl : ∀ k, r k ≠ 0 → k < w.heap.size) (hO2 : Only (· = p) wc w2)
    (hb2 : w2.heap[p]? = some (.cells #[.slice (some ⟨g2, 0, none⟩) n' cap, .int .i64 f', .int .i64 (Q.L.length + 1 : Nat), .int .i64 (sumQ Q.L + x.size : Nat), .int .i64 Q.items, .int .i64 Q.bound, .int .u64 Q.drops] 120 (0, 0)))
    (hB : Below w2.heap.size w2 w4) (hv : Own8 w4 w2.heap.size v x.data) (hroom : roomB Q x.size = true) (hd : x.data.length ≤ 1000000) :
    ∃ r'' xs'', IsQ (((w4.setCell ⟨g2, (f' + Q.L.length) % n' * 3, none⟩ (.int .u64 x.no)).setCell ⟨g2, (f' + Q.L.length) % n' * 3 + 1, none⟩ (.int .i64 x.size)).setCell ⟨g2, (f' + Q.L.length) % n' * 3 + 2, none⟩ v) p r'' (pushed Q x) (.slice (some ⟨g2, 0, none⟩) n' cap) f' n' xs'' ∧
      Only (fun k => r k ≠ 0) w (((w4.setCell ⟨g2, (f' + Q.L.length) % n' * 3, none⟩ (.int .u64 x.no)).setCell ⟨g2, (f' + Q.L.length) % n' * 3 + 1, none⟩ (.int .i64 x.size)).setCell ⟨g2, (f' + Q.L.length) % n' * 3 + 2, none⟩ v) ∧ ∀ k, r'' k ≠ 0 → r k ≠ 0 ∨ w.heap.size ≤ k := by
  classical
  have hS : ∀ k, r' k ≠ 1 → ¬ k = p := fun k hk e => hk (by rw [e, hQ.rp])
  have hsc := hO2.size
  have hs2 := hB.size
  have hrg : r' g2 = 2 := hQ.rr g2 rfl
  have hO4 : Only (· = p) wc w4 := hO2.trans (Below.only hB _)
  have hmod := Nat.mod_lt (f' + Q.L.length) (show 0 < n' by omega)
  have hrow4 := own_only hQ.ring hO4 (fun k hk => hS k (by rw [hQ.rr k hk]; decide))
  have hb4 := (hB.block p (lt_of_obj hb2)).trans hb2
  obtain ⟨hrow5, hO5⟩ := set3_row hrow4 (o := (f' + Q.L.length) % n' * 3) (by omega) (.int .u64 x.no) (.int .i64 x.size) v
  have hxl : xs'.length = n' * 3 := hQ.ring.1
  have hvge := own_ge hv
  have hvlt := own_lt hv
  have hvf : ∀ k, v.ownBlock = some k → r' k = 0 := fun k hk => by
    rcases Nat.eq_zero_or_pos (r' k) with e | e
    · exact e
    · have := hQ.lt k (by omega); have := hvge k hk; omega
  have hgp : g2 ≠ p := fun e => by rw [e, hQ.rp] at hrg; exact absurd hrg (by decide)
  have hrm : roomB Q x.size = true := hroom
  simp only [roomB, decide_eq_true_eq] at hrm
  refine ⟨fun k => if v.ownBlock = some k then 3 else r' k, _, ⟨?_, hrow5, ?_, hQ.from_, ?_, hQ.cap, ?_, hQ.items, ?_, hQ.bound, ?_, ?_, ?_, ?_⟩, ?_, ?_⟩
  · have h5 := hO5.keep hb4 (fun e => hgp e.symm)
    simpa [pushed, sumQ_snoc] using h5
  · intro i z hz
    have hz' : (Q.L ++ [x])[i]? = some z := hz
    by_cases hi : i < Q.L.length
    · rw [List.getElem?_append_left hi] at hz'
      obtain ⟨y, hy⟩ := hQ.rc i z hz'
      have hy4 := (hy.keep hO4 (fun k hk => hS k (by rw [hk]; decide))).keep hO5 (fun k hk e => by subst e; rw [hk] at hrg; exact absurd hrg (by decide))
      have hne : (f' + i) % n' ≠ (f' + Q.L.length) % n' := by
        intro e
        have e2 : (f' + Q.L.length) % n' = (f' + i) % n' := e.symm
        have h1 := Nat.sub_mod_eq_zero_of_mod_eq e2
        rw [show f' + Q.L.length - (f' + i) = Q.L.length - i by omega] at h1
        have h2 : (Q.L.length - i) % n' = Q.L.length - i := Nat.mod_eq_of_lt (by omega)
        omega
      have hoff : (f' + i) % n' * 3 + 2 < (f' + Q.L.length) % n' * 3 ∨ (f' + Q.L.length) % n' * 3 + 2 < (f' + i) % n' * 3 := by
        rcases Nat.lt_or_gt_of_ne hne with h | h <;> omega
      refine ⟨y, ?_, ?_, ?_, hy4.d, fun k hk => ?_⟩
      · rw [set3_other (by omega)]; exact hy4.c0
      · rw [set3_other (by omega)]; exact hy4.c1
      · rw [set3_other (by omega)]; exact hy4.c2
      · show (if v.ownBlock = some k then 3 else r' k) = 3
        split
        · rfl
        · exact hy4.f k hk
    · have hin : i = Q.L.length := by
        have := (List.getElem?_eq_some_iff.1 hz').1
        simp at this
        omega
      subst hin
      rw [List.getElem?_append_right (Nat.le_refl _), Nat.sub_self] at hz'
      simp at hz'
      subst hz'
      have hv5 := own_lower (own_only hv hO5 (fun k hk e => by subst e; rw [hvf k hk] at hrg; exact absurd hrg (by decide))) (Nat.zero_le _)
      exact ⟨v, set3_0 (by omega), set3_1 (by omega), set3_2 (by omega), hv5, fun k hk => by show (if v.ownBlock = some k then 3 else r' k) = 3; rw [if_pos hk]⟩
  · simp [pushed]; omega
  · simp [pushed]; omega
  · simp [pushed, sumQ_snoc]; omega
  · intro z hz
    rcases List.mem_append.1 hz with h | h
    · exact hQ.data z h
    · simp at h; subst h; exact hd
  · show (if v.ownBlock = some p then 3 else r' p) = 1
    rw [if_neg (fun e => by have := hvf p e; rw [hQ.rp] at this; exact absurd this (by decide))]
    exact hQ.rp
  · intro k hk
    show (if v.ownBlock = some k then 3 else r' k) = 2
    have hk2 := hQ.rr k hk
    rw [if_neg (fun e => by have := hvf k e; rw [hk2] at this; exact absurd this (by decide))]
    exact hk2
  · intro k hk
    have h45 := hO5.size
    have hk' : (if v.ownBlock = some k then 3 else r' k) ≠ 0 := hk
    split at hk'
    · have := hvlt k ‹_›; omega
    · have := hQ.lt k hk'; omega
  · have hgr := hr g2 (by rw [hrg]; decide)
    refine ⟨hO5.os.trans (hO4.os.trans hOw.os), hO5.tape.trans (hO4.tape.trans hOw.tape), hO5.output.trans (hO4.output.trans hOw.output), Nat.le_trans (Nat.le_trans hOw.size hO4.size) hO5.size, fun k hk hrk => ?_⟩
    have hcs := hOw.size
    have h4s := hO4.size
    rw [hO5.block k (by omega) (fun e => by subst e; rcases hgr with h | h; exact hrk h; omega), hO4.block k (by omega) (fun e => hrk (by rw [e, hrp]; decide)), hOw.block k hk hrk]
  · intro k hk
    have hk' : (if v.ownBlock = some k then 3 else r' k) ≠ 0 := hk
    split at hk'
    · have := hvge k ‹_›; have := hOw.size; right; omega
    · exact hr k hk'
end Go.Proofs.Ythipfcmjpgbemaa

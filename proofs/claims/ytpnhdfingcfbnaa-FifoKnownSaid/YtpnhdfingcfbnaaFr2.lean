/- The document's queue: item, Pop, Push, walked. -/
import Derived.Test.YtpnhdfingcfbnaaFr1
import Derived.Deep.RegionHeld3
import Derived.Deep.DrawnRows
import Derived.RegionTactic
import Derived.ChangeAlike
namespace Go.Proofs.Ytpnhdfingcfbnaa
open Go.RowKit
attribute [local go_sem ↓] Go.wp_at_zero Go.wp_at_succ

/-- The document's item as a value. -/
def ri (x : It) : Value := .agg #[.int .u64 x.no, .int .i64 x.size, .string (str8 x.data)]

theorem item_is (no sz : Int) (y : Value) (d : List Nat) (w : World) (hy : Holds8 w y d) :
    Calls Try.prog 14 #[.agg #[.int .u64 no, .int .i64 sz, y]] w fun e w' => e = .returned (.agg #[.int .u64 no, .int .i64 sz, .string (str8 d)]) ∧ Below w.heap.size w w' := by
  have hA : Below w.heap.size w ((w.alloc (.cells #[.int .u64 no, .int .i64 sz, y] 37)).alloc (.cells #[.int .u64 0, .int .i64 0, .string ⟨#[]⟩] 42)) := ((Below.refl _ _).alloc (Nat.le_refl _) _).alloc (by simp) _
  have hc : ∀ w', Below w.heap.size w w' → (convert 35 9 y).run Try.prog w' = .ok (.string (str8 d)) w' := fun w' hB => conv8 (hy.below hB)
  obtain ⟨ao, cap, rfl, _⟩ := hy
  have h1 := hc _ hA
  clear hc
  generalize d.length = n at *
  generalize str8 d = s at *
  go_enter Try.func14, Try.ntmps14
  go_wp2_with fail
  exact bodyPost_ret (v := .agg #[.int .u64 no, .int .i64 sz, .string s]) (by simp [results, Try.results14, go_sem]) rfl ⟨rfl, ((Below.refl _ _).alloc (Nat.le_refl _) _).alloc (by simp) _⟩

set_option maxRecDepth 100000 in
theorem rpop_nil {w : World} {v : Value} {Q : QS} (h : RL w 0 v Q.L) (h0 : Q.L = []) :
    Calls Try.prog 12 #[rq v Q] w fun e w' => e = .returned (.tuple #[rq v Q, .agg #[.int .u64 0, .int .i64 0, .string ⟨#[]⟩], .bool false]) ∧ Below w.heap.size w w' := by
  obtain ⟨ao, c, rfl⟩ := h.shape
  rw [h0]
  unfold rq
  clear h h0
  generalize Q.items = items at *
  generalize Q.bound = bound at *
  generalize Q.drops = drops at *
  go_enter Try.func12, Try.ntmps12
  go_wp2_with fail
  exact bodyPost_ret (v := .tuple #[.agg #[.slice ao 0 c, .int .i64 items, .int .i64 bound, .int .u64 drops], .agg #[.int .u64 0, .int .i64 0, .string ⟨#[]⟩], .bool false]) (by simp [results, Try.results12, go_sem]) rfl ⟨rfl, (((Below.refl _ _).alloc (Nat.le_refl _) _).alloc (by simp) _).alloc (by simp; omega) _⟩

/-- One off ahead. -/
theorem RL.tail {w : World} {B : Nat} {g o n c : Nat} {x : It} {L : List It} (h : RL w B (.slice (some ⟨g, o, none⟩) n c) (x :: L)) : n = L.length + 1 ∧ 1 ≤ c ∧ B ≤ g ∧
    RL w B (.slice (if c = 1 then some ⟨g, o, none⟩ else some ⟨g, o + 3, none⟩) L.length (c - 1)) L := by
  rcases h with ⟨hv, _⟩ | ⟨g', o', c', cur, hv, hg, hh, hc, hx⟩
  · cases hv
  · injection hv with e1 e2 e3
    injection e1 with e1
    injection e1 with e1 e4 _
    subst e1 e4 e3
    simp only [List.length_cons] at e2 hc
    refine ⟨e2, by omega, hg, ?_⟩
    by_cases h1 : c = 1
    · subst h1
      exact .inr ⟨g, o, 0, cur, by simp, hg, hh, by omega, fun i y hi => by have := (List.getElem?_eq_some_iff.1 hi).1; omega⟩
    · refine .inr ⟨g, o + 3, c - 1, cur, by simp [h1], hg, hh, by omega, fun i y hi => ?_⟩
      have := hx (i + 1) y (by simpa using hi)
      rw [show o + 3 + i * 3 = o + (i + 1) * 3 by omega]
      exact this

/-- Behind Pop. -/
def RPop (w : World) (B : Nat) (v : Value) (Q : QS) (x : It) (L : List It) (e : Ending) (w' : World) : Prop :=
  ∃ v', e = .returned (.tuple #[rq v' { Q with L := L }, ri x, .bool true]) ∧ RL w' B v' L ∧ Below w.heap.size w w' ∧ v'.ownBlock = v.ownBlock

set_option maxRecDepth 100000 in
theorem rpop_is {w : World} {B : Nat} {v : Value} {Q : QS} {x : It} {L : List It} (h : RL w B v Q.L) (hL : Q.L = x :: L) :
    Calls Try.prog 12 #[rq v Q] w (RPop w B v Q x L) := by
  rw [hL] at h
  obtain ⟨ao, c, rfl⟩ := h.shape
  obtain ⟨g, o, rfl, x0, x1, x2⟩ := h.at (i := 0) (x := x) rfl
  have hB : Below w.heap.size w _ := (((Below.refl _ w).alloc (Nat.le_refl _) (.cells #[.slice (some ⟨g, o, none⟩) (x :: L).length c, .int .i64 Q.items, .int .i64 Q.bound, .int .u64 Q.drops] 32)).alloc (by simp) (.cells #[.slice none 0 0, .int .i64 0, .int .i64 0, .int .u64 0] 32)).alloc (by simp; omega) (.cells #[.int .u64 0, .int .i64 0, .string ⟨#[]⟩] 42)
  obtain ⟨hn, hc1, hg, ht⟩ := h.tail
  have hgw : g < w.heap.size := (h.ge g rfl).2
  have HT := Lib.hid ht
  have HE : Hid (∀ y : Nat, (if c = 1 then some (⟨g, o, none⟩ : Addr) else some ⟨g, y, none⟩).map (·.block) = some g) := by
    intro y; split <;> rfl
  simp only [Nat.zero_mul, Nat.add_zero] at x0 x1 x2
  have y0 := (hB.cell (p := ⟨g, o, none⟩) hgw).trans x0
  have y1 := (hB.cell (p := ⟨g, o + 1, none⟩) hgw).trans x1
  have y2 := (hB.cell (p := ⟨g, o + 2, none⟩) hgw).trans x2
  simp only [List.length_cons] at y0 y1 y2
  have HB := Lib.hid hB
  unfold RPop rq ri
  clear h ht hn hL hB x0 x1 x2
  generalize Q.items = items at *
  generalize Q.bound = bound at *
  generalize Q.drops = drops at *
  generalize str8 x.data = s at *
  by_cases h1 : c = 1
  · subst h1
    rw [if_pos (rfl : (1 : Nat) = 1)] at HT
    clear HE
    go_enter Try.func12, Try.ntmps12
    go_wp2_with fail
    clear y0 y1 y2
    go_region
    all_goals
      go_wp2_with fail
      have hBf : Below w.heap.size w (((((w.alloc (.cells #[.slice (some ⟨g, o, none⟩) L.length 0, .int .i64 items, .int .i64 bound, .int .u64 drops] 32)).alloc (.cells #[.slice (some ⟨g, o, none⟩) L.length 0, .int .i64 items, .int .i64 bound, .int .u64 drops] 32)).alloc (.cells #[.int .u64 x.no, .int .i64 x.size, .string s] 42)).alloc (.cells #[.int .u64 x.no, .int .i64 x.size, .string s] 42)).drew) :=
        (((((Below.refl _ _).alloc (Nat.le_refl _) _).alloc (by simp) _).alloc (by simp; omega) _).alloc (by simp; omega) _).drew
      exact bodyPost_ret (v := .tuple #[.agg #[.slice (some ⟨g, o, none⟩) L.length 0, .int .i64 items, .int .i64 bound, .int .u64 drops], .agg #[.int .u64 x.no, .int .i64 x.size, .string s], .bool true]) (by simp [results, Try.results12, go_sem]) rfl ⟨_, rfl, HT.out.below hBf, hBf, rfl⟩
  · rw [if_neg h1] at HT
    clear HE
    go_enter Try.func12, Try.ntmps12
    go_wp2_with fail
    clear y0 y1 y2
    go_region
    all_goals
      go_wp2_with fail
      have hBf : Below w.heap.size w (((((w.alloc (.cells #[.slice (some ⟨g, o + 3, none⟩) L.length (c - 1), .int .i64 items, .int .i64 bound, .int .u64 drops] 32)).alloc (.cells #[.slice (some ⟨g, o + 3, none⟩) L.length (c - 1), .int .i64 items, .int .i64 bound, .int .u64 drops] 32)).alloc (.cells #[.int .u64 x.no, .int .i64 x.size, .string s] 42)).alloc (.cells #[.int .u64 x.no, .int .i64 x.size, .string s] 42)).drew) :=
        (((((Below.refl _ _).alloc (Nat.le_refl _) _).alloc (by simp) _).alloc (by simp; omega) _).alloc (by simp; omega) _).drew
      exact bodyPost_ret (v := .tuple #[.agg #[.slice (some ⟨g, o + 3, none⟩) L.length (c - 1), .int .i64 items, .int .i64 bound, .int .u64 drops], .agg #[.int .u64 x.no, .int .i64 x.size, .string s], .bool true]) (by simp [results, Try.results12, go_sem]) rfl ⟨_, rfl, HT.out.below hBf, hBf, rfl⟩
end Go.Proofs.Ytpnhdfingcfbnaa

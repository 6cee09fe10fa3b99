/- A shaper as it lies in memory; the counters and the lines: walked. -/
import Derived.Test.YthipfcmjpgbemaaFw
import Derived.Test.YthipfcmjpgbemaaBw4
import Derived.Laws.LoneSync
namespace Go.Proofs.Ythipfcmjpgbemaa
open Go.RowKit

/-- A class's line: what is counted, its bucket, its queue. -/
structure Ln where
  off : Nat
  drp : Nat
  out : Nat
  byt : Nat
  B : Bk
  Q : QS
/-- A shaper: its tick, its lines. -/
structure Sh where
  tick : Nat
  ls : List Ln

/-- Nothing is great. -/
structure Ln.Ok (n : Nat) (L : Ln) : Prop where
  off : L.off ≤ n
  drp : L.drp ≤ n
  out : L.out + L.Q.L.length ≤ n
  byt : L.byt ≤ 2048 * L.out
  drops : L.Q.drops ≤ n
  size : ∀ x ∈ L.Q.L, x.size ≤ 2048
  B : L.B.Ok
structure Sh.Ok (n : Nat) (S : Sh) : Prop where
  ln : ∀ L ∈ S.ls, L.Ok n
  few : n ≤ 1000000
  tick : S.tick < 18446744073709551616
  len : S.ls.length ≤ 8

def ptr (p : Nat) : Value := .pointer (some ⟨p, 0, none⟩)
/-- A line's six cells. -/
def Ln.cells (L : Ln) (bp qp : Nat) : Array Value := #[.int .u64 L.off, .int .u64 L.drp, .int .u64 L.out, .int .u64 L.byt, ptr bp, ptr qp]

/-- A line in memory. Roles: 3 + 3c the line c itself, 4 + 3c its bucket, 5 + 3c its queue. -/
structure IsL (w : World) (O : Nat → Nat) (c lp bp qp : Nat) (r : Nat → Nat) (L : Ln) : Prop where
  blk : w.heap[lp]? = some (.cells (L.cells bp qp) 88 (0, 0))
  b : IsB w bp L.B
  q : Que w qp r L.Q
  ol : O lp = 3 + 3 * c
  ob : O bp = 4 + 3 * c
  oq : ∀ k, r k ≠ 0 → O k = 5 + 3 * c
/-- A shaper in memory. Roles: 1 the shaper itself, 2 the row of its lines. -/
structure IsS (w : World) (p : Nat) (O : Nat → Nat) (v : Value) (ps : List Nat) (S : Sh) : Prop where
  blk : w.heap[p]? = some (.cells #[.int .u64 S.tick, v] 73 (0, 0))
  row : w.ownsRow 0 77 1 v S.ls.length (ps.map ptr)
  len : ps.length = S.ls.length
  ln : ∀ c L lp, S.ls[c]? = some L → ps[c]? = some lp → ∃ bp qp r, IsL w O c lp bp qp r L
  op : O p = 1
  ov : ∀ k, v.ownBlock = some k → O k = 2
  lt : ∀ k, O k ≠ 0 → k < w.heap.size

theorem IsL.keep {w w' : World} {O : Nat → Nat} {c lp bp qp : Nat} {r : Nat → Nat} {L : Ln} (h : IsL w O c lp bp qp r L) {S : Nat → Prop} (hO : Only S w w') (h1 : ¬ S lp) (h2 : ¬ S bp) (h3 : ∀ k, r k ≠ 0 → ¬ S k) : IsL w' O c lp bp qp r L :=
  ⟨hO.keep h.blk h1, h.b.keep hO h2, h.q.keep hO h3, h.ol, h.ob, h.oq⟩
theorem IsL.roles {w : World} {O O' : Nat → Nat} {c lp bp qp : Nat} {r : Nat → Nat} {L : Ln} (h : IsL w O c lp bp qp r L) (hO : ∀ k, O k ≠ 0 → O' k = O k) : IsL w O' c lp bp qp r L :=
  ⟨h.blk, h.b, h.q, by rw [hO _ (by rw [h.ol]; omega)]; exact h.ol, by rw [hO _ (by rw [h.ob]; omega)]; exact h.ob, fun k hk => by rw [hO _ (by rw [h.oq k hk]; omega)]; exact h.oq k hk⟩
section
variable {w w' : World} {p : Nat} {O : Nat → Nat} {v : Value} {ps : List Nat} {S : Sh}
theorem IsS.keep (h : IsS w p O v ps S) {T : Nat → Prop} (hO : Only T w w') (hT : ∀ k, O k ≠ 0 → ¬ T k) : IsS w' p O v ps S :=
  ⟨hO.keep h.blk (hT p (by rw [h.op]; decide)), own_only h.row hO (fun k hk => hT k (by rw [h.ov k hk]; decide)), h.len, fun c L lp hc hl =>
    let ⟨bp, qp, r, hL⟩ := h.ln c L lp hc hl
    ⟨bp, qp, r, hL.keep hO (hT _ (by rw [hL.ol]; omega)) (hT _ (by rw [hL.ob]; omega)) (fun k hk => hT k (by rw [hL.oq k hk]; omega))⟩, h.op, h.ov, fun k hk => Nat.lt_of_lt_of_le (h.lt k hk) hO.size⟩
theorem IsS.below (h : IsS w p O v ps S) (hB : Below w.heap.size w w') : IsS w' p O v ps S := h.keep (Below.only hB (fun _ => False)) (fun _ _ h => h)
theorem IsS.zero (h : IsS w p O v ps S) {k : Nat} (hk : w.heap.size ≤ k) : O k = 0 := by
  rcases Nat.eq_zero_or_pos (O k) with e | e
  · exact e
  · have := h.lt k (by omega); omega
theorem IsS.c0 (h : IsS w p O v ps S) : w.cell? ⟨p, 0, none⟩ = some (.int .u64 S.tick) := cell_of_block h.blk 0
theorem IsS.c1 (h : IsS w p O v ps S) : w.cell? ⟨p, 1, none⟩ = some v := cell_of_block h.blk 1
end

/-! ### The counters -/
theorem add_cnt {w : World} {b o : Nat} {x y : Nat} (hc : w.cell? ⟨b, o, none⟩ = some (.int .u64 x)) (hz : w.frozen? ⟨b, o, none⟩ = false) (hs : x + y < 18446744073709551616) :
    Calls Try.prog 30 #[.pointer (some ⟨b, o, none⟩), .int .u64 y] w fun e w' => e = .returned (.int .u64 ((x + y : Nat) : Int)) ∧ w' = w.setCell ⟨b, o, none⟩ (.int .u64 ((x + y : Nat) : Int)) := by
  have hi : (Op.intArith .add .u64 (x : Int) (y : Int)).run Try.prog w = .ok (.int .u64 ((x + y : Nat) : Int)) w := by
    simp [go_sem]
    rw [IntWalk.u64_in _ (by omega)]
  have hl := run_call_add (P := Try.prog) Try.func50 (by kernel_rfl) (by kernel_rfl) (by kernel_rfl) .u64 (by kernel_rfl) hc hz hi
  go_enter Try.func30, Try.ntmps30
  go_wp2_with fail
  go_ret
  exact ⟨rfl, rfl⟩
theorem load_cnt {w : World} {b o : Nat} {x : Nat} (hc : w.cell? ⟨b, o, none⟩ = some (.int .u64 x)) :
    Calls Try.prog 44 #[.pointer (some ⟨b, o, none⟩)] w fun e w' => e = .returned (.int .u64 x) ∧ w' = w := by
  have hl := run_call_load (P := Try.prog) Try.func62 (by kernel_rfl) (by kernel_rfl) (by kernel_rfl) .u64 (by kernel_rfl) hc
  go_enter Try.func44, Try.ntmps44
  go_wp2_with fail
  go_ret
  exact ⟨rfl, rfl⟩

/-! ### The line of a class -/
theorem line_nil (c : Int) (w : World) :
    Calls Try.prog 28 #[.pointer none, .int .i64 c] w fun e w' => e = .returned (.pointer none) ∧ w' = w := by
  go_enter Try.func28, Try.ntmps28
  go_wp2_with fail
  go_ret
  exact ⟨rfl, rfl⟩
theorem row_ptr {w : World} {v : Value} {n : Nat} {ps : List Nat} (h : w.ownsRow 0 77 1 v n (ps.map ptr)) {c lp : Nat} (hc : ps[c]? = some lp) (hn : ps.length = n) :
    ∃ g cap, v = .slice (some ⟨g, 0, none⟩) n cap ∧ n ≤ cap ∧ w.cell? ⟨g, c, none⟩ = some (ptr lp) := by
  have hcl := (List.getElem?_eq_some_iff.1 hc).1
  rcases h.2 with ⟨_, h0⟩ | ⟨g, cap, cur, hv, _, hh, hnc, _, _, hx⟩
  · omega
  · refine ⟨g, cap, hv, hnc, ?_⟩
    rw [cell_of_block hh]
    have e : (List.take (n * 1) cur.toList)[c]? = (ps.map ptr)[c]? := by rw [hx]
    rw [List.getElem?_take_of_lt (by omega), List.getElem?_map, hc] at e
    simpa using e
/-- Where the line of a class lies. -/
def lineAt (ps : List Nat) (c : Int) : Value := if 0 ≤ c ∧ c < ps.length then ptr (ps.getD c.toNat 0) else .pointer none
theorem line_is {w : World} {p : Nat} {O : Nat → Nat} {v : Value} {ps : List Nat} {S : Sh} (h : IsS w p O v ps S) (c : Int) :
    Calls Try.prog 28 #[ptr p, .int .i64 c] w fun e w' => e = .returned (lineAt ps c) ∧ w' = w := by
  have c1 := h.c1
  have hl := h.len
  obtain ⟨va, vc, hv⟩ := own_shape h.row
  unfold lineAt ptr
  by_cases h0 : c < 0
  · rw [if_neg (by omega)]
    clear h
    go_enter Try.func28, Try.ntmps28
    go_wp2_with fail
    go_ret
    exact ⟨rfl, rfl⟩
  · by_cases h1 : c < ps.length
    · rw [if_pos ⟨by omega, h1⟩]
      obtain ⟨n, rfl⟩ := Int.eq_ofNat_of_zero_le (show 0 ≤ c by omega)
      obtain ⟨lp, hlp⟩ : ∃ lp, ps[n]? = some lp := ⟨_, List.getElem?_eq_getElem (by omega)⟩
      obtain ⟨g, cap, hv2, hnc, hcell⟩ := row_ptr h.row hlp hl
      have e : ps.getD n 0 = lp := by simp [List.getD_eq_getElem?_getD, hlp]
      have hlt : n < S.ls.length := by omega
      have hni : (n : Int) < (S.ls.length : Int) := by omega
      rw [hv2] at c1
      unfold ptr at hcell
      show Calls _ _ _ _ (fun e w' => e = .returned (.pointer (some ⟨ps.getD n 0, 0, none⟩)) ∧ w' = w)
      rw [e]
      generalize S.ls.length = N at *
      clear h hv hv2 e hlp h1 hl
      go_enter Try.func28, Try.ntmps28
      go_wp2_with fail
      go_ret
      exact ⟨rfl, rfl⟩
    · rw [if_neg (by omega)]
      rw [hv] at c1
      rw [hl] at h1
      generalize S.ls.length = N at *
      clear h hv hl
      go_enter Try.func28, Try.ntmps28
      go_wp2_with fail
      go_ret
      exact ⟨rfl, rfl⟩
end Go.Proofs.Ythipfcmjpgbemaa

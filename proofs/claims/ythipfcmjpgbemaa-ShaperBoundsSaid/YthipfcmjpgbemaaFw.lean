/- The chapter's examples of a queue, walked. -/
import Derived.Test.YthipfcmjpgbemaaFqb
namespace Go.Proofs.Ythipfcmjpgbemaa
open Go.RowKit

/-- A queue in memory. -/
def Que (w : World) (p : Nat) (r : Nat → Nat) (Q : QS) : Prop := ∃ rv f n xs, IsQ w p r Q rv f n xs

theorem Que.keep {w w' : World} {p : Nat} {r : Nat → Nat} {Q : QS} (h : Que w p r Q) {S : Nat → Prop} (hO : Only S w w') (hS : ∀ k, r k ≠ 0 → ¬ S k) : Que w' p r Q :=
  let ⟨rv, f, n, xs, h⟩ := h
  ⟨rv, f, n, xs, h.keep hO hS⟩
theorem Que.below {w w' : World} {p : Nat} {r : Nat → Nat} {Q : QS} (h : Que w p r Q) (hB : Below w.heap.size w w') : Que w' p r Q := h.keep (Below.only hB (fun _ => False)) (fun _ _ h => h)
theorem Que.lt {w : World} {p : Nat} {r : Nat → Nat} {Q : QS} (h : Que w p r Q) : ∀ k, r k ≠ 0 → k < w.heap.size := let ⟨_, _, _, _, h⟩ := h; h.lt
theorem Que.zero {w : World} {p : Nat} {r : Nat → Nat} {Q : QS} (h : Que w p r Q) {k : Nat} (hk : w.heap.size ≤ k) : r k = 0 := by
  rcases Nat.eq_zero_or_pos (r k) with e | e
  · exact e
  · have := h.lt k (by omega); omega

/-- A queue of the call's own. -/
structure MineQ (W w : World) (p : Nat) (r : Nat → Nat) (Q : QS) : Prop where
  q : Que w p r Q
  new : ∀ k, r k ≠ 0 → W.heap.size ≤ k
  bel : Below W.heap.size W w
theorem MineQ.below {W w w' : World} {p : Nat} {r : Nat → Nat} {Q : QS} (h : MineQ W w p r Q) (hB : Below w.heap.size w w') : MineQ W w' p r Q :=
  ⟨h.q.below hB, h.new, h.bel.trans (hB.mono h.bel.size)⟩
theorem MineQ.alloc {W w : World} {p : Nat} {r : Nat → Nat} {Q : QS} (h : MineQ W w p r Q) (o : Obj) : MineQ W (w.alloc o) p r Q := h.below ((Below.refl _ _).alloc (Nat.le_refl _) _)
theorem MineQ.step {W w w' : World} {p : Nat} {r r' : Nat → Nat} {Q Q' : QS} (h : MineQ W w p r Q) (hQ : Que w' p r' Q') (hO : Only (fun k => r k ≠ 0) w w') (hr : ∀ k, r' k ≠ 0 → r k ≠ 0 ∨ w.heap.size ≤ k) : MineQ W w' p r' Q' :=
  ⟨hQ, fun k hk => (hr k hk).elim (h.new k) (fun e => Nat.le_trans h.bel.size e), h.bel.trans (hO.below h.bel.size (fun k hk e => by have := h.new k e; omega))⟩
theorem MineQ.zero {W w : World} {p : Nat} {r : Nat → Nat} {Q : QS} (h : MineQ W w p r Q) {k : Nat} (hk : k < W.heap.size) : r k = 0 := by
  rcases Nat.eq_zero_or_pos (r k) with e | e
  · exact e
  · have := h.new k (by omega); omega

/-- A queue behind a push. -/
def pushR (Q : QS) (x : It) : QS := if roomB Q x.size = true then pushed Q x else { Q with drops := Q.drops + 1 }

theorem push_q (c no sz : Int) (x : It) (y : Value) {w : World} {p : Nat} {r : Nat → Nat} {Q : QS} (h : Que w p r Q) (hy : Holds8 w y x.data) (hyr : 0 < x.data.length → ∀ k, y.ownBlock = some k → r k = 0) (hd : x.data.length ≤ 1000000) (hdr : Q.drops ≤ 1000000)
    (hno : no = x.no) (hsz : sz = x.size) (hc : c = if roomB Q x.size = true then 0 else 110) :
    Calls Try.prog 29 #[.pointer (some ⟨p, 0, none⟩), .agg #[.int .u64 no, .int .i64 sz, y]] w fun e w' => e = .returned (.int .i64 c) ∧ ∃ r', Que w' p r' (pushR Q x) ∧ Only (fun k => r k ≠ 0) w w' ∧ ∀ k, r' k ≠ 0 → r k ≠ 0 ∨ w.heap.size ≤ k := by
  obtain ⟨rv, f, n, xs, hQ⟩ := h
  subst hno hsz hc
  unfold pushR
  cases hr : roomB Q x.size with
  | true =>
    refine (push_ok x y hQ hy hyr hr hd).mono ?_
    rintro e w' ⟨rfl, r', rv', f', n', xs', h1, h2, h3⟩
    exact ⟨rfl, r', ⟨_, _, _, _, h1⟩, h2, h3⟩
  | false =>
    obtain ⟨ya, yc, rfl, _⟩ := hy
    refine (push_full x.no x.size ya x.data.length yc (by omega) hQ hr hdr).mono ?_
    rintro e w' ⟨rfl, h1, h2⟩
    exact ⟨rfl, r, ⟨_, _, _, _, h1⟩, h2, fun _ h => .inl h⟩

theorem holds_nil (w : World) : Holds8 w (.slice none 0 0) [] := ⟨none, 0, rfl, Nat.le_refl _, fun _ => rfl, fun h => absurd h (by simp), fun h => absurd h (by simp)⟩

theorem new_q (i s : Nat) (hi : i ≤ 65536) (hs : s ≤ 9223372036854775807) (w : World) :
    Calls Try.prog 26 #[.int .i64 i, .int .i64 s] w fun e w' => ∃ p r, e = .returned (.tuple #[.pointer (some ⟨p, 0, none⟩), .int .i64 0]) ∧ MineQ w w' p r (empty i s) :=
  (new_is i s hi hs w).mono fun _ _ ⟨p, r, he, hQ, hB, hr⟩ => ⟨p, r, he, ⟨_, _, _, _, hQ⟩, hr, hB⟩

theorem len_q {w : World} {p : Nat} {r : Nat → Nat} {Q : QS} (h : Que w p r Q) : Calls Try.prog 63 #[.pointer (some ⟨p, 0, none⟩)] w fun e w' => e = .returned (.int .i64 Q.L.length) ∧ w' = w := let ⟨_, _, _, _, h⟩ := h; len_is h
/-- Behind Pop. -/
def PopQ (w : World) (p : Nat) (r : Nat → Nat) (Q : QS) (x : It) (L : List It) (e : Ending) (w' : World) : Prop :=
  ∃ v, e = .returned (.tuple #[.agg #[.int .u64 x.no, .int .i64 x.size, v], .bool true]) ∧ Que w' p r (popped Q L) ∧ Only (fun k => r k ≠ 0) w w' ∧ Own8 w' w.heap.size v x.data
theorem pop_q (x : It) (L : List It) {w : World} {p : Nat} {r : Nat → Nat} {Q : QS} (h : Que w p r Q) (hL : Q.L = x :: L) :
    Calls Try.prog 54 #[.pointer (some ⟨p, 0, none⟩)] w (PopQ w p r Q x L) := let ⟨_, _, _, _, h⟩ := h; pop_is h x L hL

end Go.Proofs.Ythipfcmjpgbemaa

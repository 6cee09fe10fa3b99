/- The queue's head, all items, Push: each one contract for all cases. -/
import Derived.Test.YthipfcmjpgbemaaFw
namespace Go.Proofs.Ythipfcmjpgbemaa
open Go.RowKit

/-- All items, in new memory. -/
def AllOk (w : World) (L : List It) (e : Ending) (w' : World) : Prop := ∃ v ys F, e = .returned v ∧ NewI w.heap.size w' F v ys L ∧ Below w.heap.size w w'
theorem all_q {w : World} {p : Nat} {r : Nat → Nat} {Q : QS} (h : Que w p r Q) : Calls Try.prog 33 #[.pointer (some ⟨p, 0, none⟩)] w (AllOk w Q.L) := let ⟨_, _, _, _, h⟩ := h; all_items h
theorem head_q_nil {w : World} {p : Nat} {r : Nat → Nat} {Q : QS} (h : Que w p r Q) (h0 : Q.L = []) :
    Calls Try.prog 52 #[.pointer (some ⟨p, 0, none⟩)] w fun e w' => e = .returned (.tuple #[.agg #[.int .u64 0, .int .i64 0, .slice none 0 0], .bool false]) ∧ Below w.heap.size w w' := let ⟨_, _, _, _, h⟩ := h; head_empty h h0
theorem head_q {w : World} {p : Nat} {r : Nat → Nat} {Q : QS} (h : Que w p r Q) {x : It} {L : List It} (hL : Q.L = x :: L) :
    Calls Try.prog 52 #[.pointer (some ⟨p, 0, none⟩)] w (HeadOk w x) := let ⟨_, _, _, _, h⟩ := h; head_is h x L hL

/-- The first of some items, or none. -/
def hdIt : List It → It
  | [] => ⟨0, 0, []⟩
  | x :: _ => x
def hdB : List It → Bool
  | [] => false
  | _ :: _ => true
def HeadAny (w : World) (L : List It) (e : Ending) (w' : World) : Prop := ∃ a c, e = .returned (.tuple #[.agg #[.int .u64 (hdIt L).no, .int .i64 (hdIt L).size, .slice a (hdIt L).data.length c], .bool (hdB L)]) ∧ Holds8 w' (.slice a (hdIt L).data.length c) (hdIt L).data ∧ Below w.heap.size w w'
theorem head_any {w : World} {p : Nat} {r : Nat → Nat} {Q : QS} (h : Que w p r Q) : Calls Try.prog 52 #[.pointer (some ⟨p, 0, none⟩)] w (HeadAny w Q.L) := by
  cases hL : Q.L with
  | nil =>
    refine (head_q_nil h hL).mono ?_
    rintro e w' ⟨rfl, hB⟩
    exact ⟨none, 0, rfl, holds_nil _, hB⟩
  | cons x L =>
    refine (head_q h hL).mono ?_
    rintro e w' ⟨v, rfl, ho, hB⟩
    obtain ⟨a, c, rfl⟩ := own_shape ho
    exact ⟨a, c, rfl, ho.holds, hB⟩
theorem Que.few {w : World} {p : Nat} {r : Nat → Nat} {Q : QS} (h : Que w p r Q) : Q.L.length ≤ Q.items := let ⟨_, _, _, _, h⟩ := h; h.few
theorem Que.its {w : World} {p : Nat} {r : Nat → Nat} {Q : QS} (h : Que w p r Q) : Q.items ≤ 65536 := let ⟨_, _, _, _, h⟩ := h; h.items
theorem Que.bnd {w : World} {p : Nat} {r : Nat → Nat} {Q : QS} (h : Que w p r Q) : Q.bound ≤ 9223372036854775807 := let ⟨_, _, _, _, h⟩ := h; h.bound
theorem Que.len {w : World} {p : Nat} {r : Nat → Nat} {Q : QS} (h : Que w p r Q) : Q.L.length ≤ 65536 := Nat.le_trans h.few h.its

/-- A queue behind a push of whatever, and the code. -/
def pushA (Q : QS) (no : Nat) (sz : Int) (ds : List Nat) : QS := if sz < 0 then Q else pushR Q ⟨no, sz.toNat, ds⟩
def pushC (Q : QS) (sz : Int) : Int := if sz < 0 then 2 else if roomB Q sz = true then 0 else 110
/-- A queue behind Pop. -/
def popA (Q : QS) : QS := { Q with L := Q.L.tail }

theorem pushR_bounds (Q : QS) (x : It) : (pushR Q x).items = Q.items ∧ (pushR Q x).bound = Q.bound ∧ (pushR Q x).drops ≤ Q.drops + 1 := by
  unfold pushR
  split
  · exact ⟨rfl, rfl, Nat.le_succ _⟩
  · exact ⟨rfl, rfl, Nat.le_refl _⟩
theorem pushA_bounds (Q : QS) (no : Nat) (sz : Int) (ds : List Nat) : (pushA Q no sz ds).items = Q.items ∧ (pushA Q no sz ds).bound = Q.bound ∧ (pushA Q no sz ds).drops ≤ Q.drops + 1 := by
  unfold pushA
  split
  · exact ⟨rfl, rfl, Nat.le_succ _⟩
  · exact pushR_bounds _ _

/-- Behind Push. -/
def PushAny (w : World) (p : Nat) (r : Nat → Nat) (Q' : QS) (c : Int) (e : Ending) (w' : World) : Prop :=
  e = .returned (.int .i64 c) ∧ ∃ r', Que w' p r' Q' ∧ Only (fun k => r k ≠ 0) w w' ∧ ∀ k, r' k ≠ 0 → r k ≠ 0 ∨ w.heap.size ≤ k

theorem push_any (no : Nat) (sz : Int) (y : Value) (ds : List Nat) {w : World} {p : Nat} {r : Nat → Nat} {Q : QS} (h : Que w p r Q) (hy : Holds8 w y ds) (hyr : 0 < ds.length → ∀ k, y.ownBlock = some k → r k = 0) (hd : ds.length ≤ 1000000) (hdr : Q.drops ≤ 1000000) :
    Calls Try.prog 29 #[.pointer (some ⟨p, 0, none⟩), .agg #[.int .u64 no, .int .i64 sz, y]] w (PushAny w p r (pushA Q no sz ds) (pushC Q sz)) := by
  unfold pushA pushC
  by_cases hs : sz < 0
  · rw [if_pos hs, if_pos hs]
    obtain ⟨ya, yc, rfl, _⟩ := hy
    refine (push_neg p no sz ya ds.length yc hs w).mono ?_
    rintro e w' ⟨rfl, hB⟩
    exact ⟨rfl, r, h.below hB, Below.only hB _, fun _ h => .inl h⟩
  · rw [if_neg hs, if_neg hs]
    obtain ⟨n, rfl⟩ : ∃ n : Nat, sz = n := ⟨sz.toNat, by omega⟩
    rw [Int.toNat_natCast]
    refine (push_q (if roomB Q n = true then 0 else 110) no n ⟨no, n, ds⟩ y h hy hyr hd hdr rfl rfl rfl).mono ?_
    rintro e w' ⟨rfl, r', h1, h2, h3⟩
    exact ⟨rfl, r', h1, h2, h3⟩

end Go.Proofs.Ythipfcmjpgbemaa

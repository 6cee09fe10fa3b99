/- Push, Pop and Room of both queues, each one contract for all cases. -/
import Derived.Test.YtpnhdfingcfbnaaFr4
import Derived.Test.YtpnhdfingcfbnaaFo3
namespace Go.Proofs.Ytpnhdfingcfbnaa
open Go.RowKit

theorem Que.its {w : World} {p : Nat} {r : Nat → Nat} {Q : QS} (h : Que w p r Q) : Q.items ≤ 65536 := let ⟨_, _, _, _, h⟩ := h; h.items
theorem Que.bnd {w : World} {p : Nat} {r : Nat → Nat} {Q : QS} (h : Que w p r Q) : Q.bound ≤ 9223372036854775807 := let ⟨_, _, _, _, h⟩ := h; h.bound
theorem Que.len {w : World} {p : Nat} {r : Nat → Nat} {Q : QS} (h : Que w p r Q) : Q.L.length ≤ 65536 := Nat.le_trans h.few h.its

/-- A queue behind a push of whatever, and the code. -/
def pushA (Q : QS) (no : Nat) (sz : Int) (ds : List Nat) : QS := if sz < 0 then Q else pushR Q ⟨no, sz.toNat, ds⟩
def pushC (Q : QS) (sz : Int) : Int := if sz < 0 then 2 else if roomB Q sz = true then 0 else 110
/-- A queue behind Pop. -/
def popA (Q : QS) : QS := { Q with L := Q.L.tail }

theorem pushR_bounds (Q : QS) (x : It) : (pushR Q x).items = Q.items ∧ (pushR Q x).bound = Q.bound ∧ (pushR Q x).drops ≤ Q.drops + 1 := by
  unfold pushR
  split
  · exact ⟨rfl, rfl, Nat.le_succ _⟩
  · exact ⟨rfl, rfl, Nat.le_refl _⟩
theorem pushA_bounds (Q : QS) (no : Nat) (sz : Int) (ds : List Nat) : (pushA Q no sz ds).items = Q.items ∧ (pushA Q no sz ds).bound = Q.bound ∧ (pushA Q no sz ds).drops ≤ Q.drops + 1 := by
  unfold pushA
  split
  · exact ⟨rfl, rfl, Nat.le_succ _⟩
  · exact pushR_bounds _ _

/-- Behind Push. -/
def PushAny (w : World) (p : Nat) (r : Nat → Nat) (Q' : QS) (c : Int) (e : Ending) (w' : World) : Prop :=
  e = .returned (.int .i64 c) ∧ ∃ r', Que w' p r' Q' ∧ Only (fun k => r k ≠ 0) w w' ∧ ∀ k, r' k ≠ 0 → r k ≠ 0 ∨ w.heap.size ≤ k

theorem push_any (no : Nat) (sz : Int) (y : Value) (ds : List Nat) {w : World} {p : Nat} {r : Nat → Nat} {Q : QS} (h : Que w p r Q) (hy : Holds8 w y ds) (hyr : 0 < ds.length → ∀ k, y.ownBlock = some k → r k = 0) (hd : ds.length ≤ 1000000) (hdr : Q.drops ≤ 1000000) :
    Calls Try.prog 19 #[.pointer (some ⟨p, 0, none⟩), .agg #[.int .u64 no, .int .i64 sz, y]] w (PushAny w p r (pushA Q no sz ds) (pushC Q sz)) := by
  unfold pushA pushC
  by_cases hs : sz < 0
  · rw [if_pos hs, if_pos hs]
    obtain ⟨ya, yc, rfl, _⟩ := hy
    refine (push_neg p no sz ya ds.length yc hs w).mono ?_
    rintro e w' ⟨rfl, hB⟩
    exact ⟨rfl, r, h.below hB, Below.only hB _, fun _ h => .inl h⟩
  · rw [if_neg hs, if_neg hs]
    obtain ⟨n, rfl⟩ : ∃ n : Nat, sz = n := ⟨sz.toNat, by omega⟩
    rw [Int.toNat_natCast]
    refine (push_q (if roomB Q n = true then 0 else 110) no n ⟨no, n, ds⟩ y h hy hyr hd hdr rfl rfl rfl).mono ?_
    rintro e w' ⟨rfl, r', h1, h2, h3⟩
    exact ⟨rfl, r', h1, h2, h3⟩

/-- Behind Pop. -/
def PopAny (w : World) (p : Nat) (r : Nat → Nat) (Q : QS) (e : Ending) (w' : World) : Prop :=
  ∃ a c, e = .returned (.tuple #[.agg #[.int .u64 (hdIt Q.L).no, .int .i64 (hdIt Q.L).size, .slice a (hdIt Q.L).data.length c], .bool (hdB Q.L)]) ∧ Holds8 w' (.slice a (hdIt Q.L).data.length c) (hdIt Q.L).data ∧ Que w' p r (popA Q) ∧ Only (fun k => r k ≠ 0) w w'

theorem pop_any {w : World} {p : Nat} {r : Nat → Nat} {Q : QS} (h : Que w p r Q) : Calls Try.prog 13 #[.pointer (some ⟨p, 0, none⟩)] w (PopAny w p r Q) := by
  cases hL : Q.L with
  | nil =>
    have hq : popA Q = Q := by obtain ⟨L, a, b, c⟩ := Q; simp at hL; subst hL; rfl
    refine (pop_q_nil h hL).mono ?_
    rintro e w' ⟨rfl, hB⟩
    unfold PopAny
    rw [hq, hL]
    exact ⟨none, 0, rfl, holds_nil _, h.below hB, Below.only hB _⟩
  | cons x L =>
    refine (pop_q x L h hL).mono ?_
    rintro e w' ⟨v, rfl, hQ, hO, hv⟩
    obtain ⟨a, c, rfl⟩ := own_shape hv
    have hq : popA Q = popped Q L := by unfold popA popped; rw [hL]; rfl
    unfold PopAny
    rw [hq, hL]
    exact ⟨a, c, rfl, hv.holds, hQ, hO⟩

/-- The document's queue in memory: a row, and its values. -/
structure RQ (w : World) (B : Nat) (v : Value) (Q : QS) : Prop where
  rl : RL w B v Q.L
  len : Q.L.length ≤ 65536
  its : Q.items ≤ 65536
  sum : sumQ Q.L ≤ Q.bound
  bnd : Q.bound ≤ 9223372036854775807

theorem RQ.below {w w' : World} {B : Nat} {v : Value} {Q : QS} (h : RQ w B v Q) (hB : Below w.heap.size w w') : RQ w' B v Q := ⟨h.rl.below hB, h.len, h.its, h.sum, h.bnd⟩
theorem Que.rq {w0 w : World} {p : Nat} {r : Nat → Nat} {Q : QS} (h : Que w0 p r Q) {B : Nat} {v : Value} (hR : RL w B v Q.L) : RQ w B v Q := ⟨hR, h.len, h.its, h.sum, h.bnd⟩

/-- Behind the document's Push. -/
def RPushAny (w : World) (B : Nat) (v : Value) (Q' : QS) (c : Int) (e : Ending) (w' : World) : Prop :=
  ∃ a k, e = .returned (.tuple #[.agg #[.slice a Q'.L.length k, .int .i64 Q'.items, .int .i64 Q'.bound, .int .u64 Q'.drops], .int .i64 c]) ∧ RL w' B (.slice a Q'.L.length k) Q'.L ∧ Below w.heap.size w w' ∧
    ∀ j, (Value.slice a Q'.L.length k).ownBlock = some j → v.ownBlock = some j ∨ w.heap.size ≤ j

theorem roomB_lt {Q : QS} {s : Int} (h : roomB Q s = true) : Q.L.length < Q.items := by
  unfold roomB at h
  exact (of_decide_eq_true h).2.1

theorem rpush_any (no : Nat) (sz : Int) (ds : List Nat) {w : World} {B : Nat} {v : Value} {Q : QS} (h : RQ w B v Q) (hB : B ≤ w.heap.size) (hdr : Q.drops ≤ 1000000) :
    Calls Try.prog 18 #[rq v Q, .agg #[.int .u64 no, .int .i64 sz, .string (str8 ds)]] w (RPushAny w B v (pushA Q no sz ds) (pushC Q sz)) := by
  unfold pushA pushC
  obtain ⟨a, c, ev⟩ := h.rl.shape
  by_cases hs : sz < 0
  · rw [if_pos hs, if_pos hs]
    refine (rpush_bad no sz (str8 ds) hs (h.rl.raise (fun _ _ => Nat.zero_le _))).mono ?_
    rintro e w' ⟨rfl, hB⟩
    have hR := h.rl.below hB
    rw [ev] at hR ⊢
    exact ⟨a, c, rfl, hR, hB, fun j hj => .inl hj⟩
  · rw [if_neg hs, if_neg hs]
    obtain ⟨n, rfl⟩ : ∃ n : Nat, sz = n := ⟨sz.toNat, by omega⟩
    rw [Int.toNat_natCast]
    unfold pushR
    cases hr : roomB Q n with
    | true =>
      rw [if_pos rfl, if_pos rfl]
      have := roomB_lt hr
      have := h.its
      refine (rpush_ok ⟨no, n, ds⟩ h.rl (by omega) h.its h.sum h.bnd hr).mono ?_
      rintro e w' ⟨v', rfl, hR, hBw⟩
      obtain ⟨a', c', ev'⟩ := hR.shape
      rw [ev'] at hR ⊢
      exact ⟨a', c', rfl, hR.raise (fun j hj => Nat.le_trans hB (hR.ge j hj).1), hBw, fun j hj => .inr (hR.ge j hj).1⟩
    | false =>
      rw [if_neg (by decide), if_neg (by decide)]
      refine (rpush_full ⟨no, n, ds⟩ h.rl h.len h.its h.sum h.bnd hr hdr).mono ?_
      rintro e w' ⟨rfl, hB⟩
      have hR := h.rl.below hB
      rw [ev] at hR ⊢
      exact ⟨a, c, rfl, hR, hB, fun j hj => .inl hj⟩

/-- Behind the document's Pop. -/
def RPopA (w : World) (B : Nat) (v : Value) (Q : QS) (e : Ending) (w' : World) : Prop :=
  ∃ a k, e = .returned (.tuple #[.agg #[.slice a (popA Q).L.length k, .int .i64 Q.items, .int .i64 Q.bound, .int .u64 Q.drops], .agg #[.int .u64 (hdIt Q.L).no, .int .i64 (hdIt Q.L).size, .string (str8 (hdIt Q.L).data)], .bool (hdB Q.L)]) ∧
    RL w' B (.slice a (popA Q).L.length k) (popA Q).L ∧ Below w.heap.size w w' ∧ ∀ j, (Value.slice a (popA Q).L.length k).ownBlock = some j → v.ownBlock = some j

theorem rpop_all {w : World} {B : Nat} {v : Value} {Q : QS} (h : RL w B v Q.L) : Calls Try.prog 12 #[rq v Q] w (RPopA w B v Q) := by
  obtain ⟨a, c, ev⟩ := h.shape
  cases hL : Q.L with
  | nil =>
    refine (rpop_nil (h.raise (fun _ _ => Nat.zero_le _)) hL).mono ?_
    rintro e w' ⟨rfl, hB⟩
    have hR := h.below hB
    unfold RPopA popA
    rw [ev, hL] at hR ⊢
    unfold hdIt hdB rq
    rw [str8_nil]
    exact ⟨a, c, rfl, hR, hB, fun j hj => hj⟩
  | cons x L =>
    refine (rpop_is h hL).mono ?_
    rintro e w' ⟨v', rfl, hR, hB, hv⟩
    obtain ⟨a', c', ev'⟩ := hR.shape
    unfold RPopA popA
    rw [hL]
    rw [ev'] at hR hv ⊢
    exact ⟨a', c', rfl, hR, hB, fun j hj => by rw [← hv]; exact hj⟩
end Go.Proofs.Ytpnhdfingcfbnaa

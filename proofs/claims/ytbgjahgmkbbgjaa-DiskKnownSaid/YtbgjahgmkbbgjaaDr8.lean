/- DiskPlays: contracts for all cases; the state between calls. -/
import Derived.Test.YtbgjahgmkbbgjaaDr7
import Derived.Test.YtbgjahgmkbbgjaaKp1
namespace Go.Proofs.Ytbgjahgmkbbgjaa
open Go.RowKit

/-- The part that is read, and the code. -/
def partZ (zs : List Nat) (N : Nat) (a n : Int) : List Nat := if liesB N a n = true then (zs.drop a.toNat).take n.toNat else []
def partC (N : Nat) (a n : Int) : Int := if liesB N a n = true then 0 else 130
/-- Behind a reading of whatever. -/
def RdAny (w : World) (zs : List Nat) (c : Int) (e : Ending) (w' : World) : Prop :=
  ∃ y k, e = .returned (.tuple #[.slice y zs.length k, .int .i64 c]) ∧ Own8 w' w.heap.size (.slice y zs.length k) zs ∧ Below w.heap.size w w'

theorem rd_nil {w : World} : RdAny w [] 130 (.returned (.tuple #[.slice none 0 0, .int .i64 130])) w := ⟨none, 0, rfl, World.ownsRow_nil _ _ _ _, Below.refl _ _⟩

theorem read_any (a n : Int) {w : World} {p : Nat} {r : Nat → Nat} {N : Nat} {D : DS} (h : Dsk w p r N D) :
    Calls Try.prog 12 #[.pointer (some ⟨p, 0, none⟩), .int .i64 a, .int .i64 n] w (RdAny w (partZ D.now N a n) (partC N a n)) := by
  unfold partZ partC
  cases hl : liesB N a n with
  | false =>
    rw [if_neg (by decide), if_neg (by decide)]
    obtain ⟨dv, nv, uv, xs, hD, hw⟩ := h
    have := hw.nowlen
    have := hw.le
    refine (now_off a n hD (by omega) (by rw [hw.nowlen]; exact hl)).mono ?_
    rintro e w' ⟨rfl, rfl⟩
    exact rd_nil
  | true =>
    rw [if_pos rfl, if_pos rfl]
    obtain ⟨i, k, rfl, rfl, hik⟩ := liesB_true hl
    rw [Int.toNat_natCast, Int.toNat_natCast]
    refine (read_d i k h hik).mono ?_
    rintro e w' ⟨v, rfl, hv, hB⟩
    obtain ⟨y, c, rfl⟩ := own_shape hv
    exact ⟨y, c, rfl, hv, hB⟩
theorem durable_any (a n : Int) {w : World} {p : Nat} {r : Nat → Nat} {N : Nat} {D : DS} (h : Dsk w p r N D) :
    Calls Try.prog 15 #[.pointer (some ⟨p, 0, none⟩), .int .i64 a, .int .i64 n] w (RdAny w (partZ D.dur N a n) (partC N a n)) := by
  unfold partZ partC
  cases hl : liesB N a n with
  | false =>
    rw [if_neg (by decide), if_neg (by decide)]
    obtain ⟨dv, nv, uv, xs, hD, hw⟩ := h
    have := hw.nowlen
    have := hw.le
    refine (dur_off a n hD (by omega) (by rw [hw.nowlen]; exact hl)).mono ?_
    rintro e w' ⟨rfl, rfl⟩
    exact rd_nil
  | true =>
    rw [if_pos rfl, if_pos rfl]
    obtain ⟨i, k, rfl, rfl, hik⟩ := liesB_true hl
    rw [Int.toNat_natCast, Int.toNat_natCast]
    refine (durable_d i k h hik).mono ?_
    rintro e w' ⟨v, rfl, hv, hB⟩
    obtain ⟨y, c, rfl⟩ := own_shape hv
    exact ⟨y, c, rfl, hv, hB⟩
theorem rpart_any (dur all : List Nat) (ao : Option Addr) (m c : Nat) (N : Nat) (a n : Int) (hN : dur.length = N) (h6 : N ≤ 65536) (ha : all.length = N) (w : World) :
    Calls Try.prog 39 #[.agg #[.string (str8 dur), .slice ao m c], .string (str8 all), .int .i64 a, .int .i64 n] w (RdAny w (nrm (partZ all N a n)) (partC N a n)) := by
  unfold partZ partC
  cases hl : liesB N a n with
  | false =>
    rw [if_neg (by decide), if_neg (by decide)]
    refine (rpart_off dur (str8 all) (.slice ao m c) ⟨_, _, _, rfl⟩ a n (by omega) (by rw [hN]; exact hl) w).mono ?_
    rintro e w' ⟨rfl, hB⟩
    exact ⟨none, 0, rfl, World.ownsRow_nil _ _ _ _, hB⟩
  | true =>
    rw [if_pos rfl, if_pos rfl]
    obtain ⟨i, k, rfl, rfl, hik⟩ := liesB_true hl
    rw [Int.toNat_natCast, Int.toNat_natCast]
    refine (rpart_on dur all (.slice ao m c) ⟨_, _, _, rfl⟩ i k (by omega) (by omega) (by omega) w).mono ?_
    rintro e w' ⟨v, rfl, hv, hB⟩
    obtain ⟨y, c', rfl⟩ := own_shape hv
    exact ⟨y, c', rfl, hv, hB⟩
theorem same_nrm (v u : Value) (zs : List Nat) (w : World) (hv : Holds8 w v zs) (hu : Holds8 w u (nrm zs)) :
    Calls Try.prog 14 #[v, u] w fun e w' => e = .returned (.bool true) ∧ w' = w := by
  have h := same8_any v u zs (nrm zs) w hv hu
  rw [str8_nrm, beq_self_eq_true] at h
  exact h
theorem partZ_len {zs ys : List Nat} {N : Nat} {a n : Int} (h : zs.length = ys.length) : (partZ zs N a n).length = (partZ ys N a n).length := by
  unfold partZ
  split
  · simp [h]
  · rfl
theorem partZ_le (zs : List Nat) (N : Nat) (a n : Int) : (partZ zs N a n).length ≤ zs.length := by
  unfold partZ
  split
  · rw [List.length_take, List.length_drop]; omega
  · exact Nat.zero_le _

/-- Behind Put. -/
def RPutAny (w : World) (B : Nat) (v : Value) (dur : List Nat) (L : List (Nat × List Nat)) (c : Int) (e : Ending) (w' : World) : Prop :=
  ∃ a k, e = .returned (.tuple #[.agg #[.string (str8 dur), .slice a L.length k], .int .i64 c]) ∧ RW w' B (.slice a L.length k) L ∧ Below w.heap.size w w' ∧ ∀ j, (Value.slice a L.length k).ownBlock = some j → v.ownBlock = some j ∨ w.heap.size ≤ j
theorem rput_any (a : Int) (d : List Nat) {w : World} {B N : Nat} {v : Value} {D : DS} (h : RW w B v D.uns) (hB : B ≤ w.heap.size) (hw : Wf N D) (hd : d.length ≤ 1000000) (hl : D.uns.length ≤ 100000) :
    Calls Try.prog 35 #[rd D.dur v, .int .i64 a, .string (str8 d)] w (RPutAny w B v (wrote N D a d).dur (wrote N D a d).uns (wcode N a d.length : Nat)) := by
  have hdur : (wrote N D a d).dur = D.dur := by unfold wrote; split <;> rfl
  have hle := hw.le
  have hdl := hw.dur
  rw [hdur]
  obtain ⟨ao, c, ev⟩ := h.shape
  unfold wrote wcode
  cases hli : liesB N a d.length with
  | false =>
    rw [if_neg (by simp), if_neg (by decide)]
    subst ev
    refine (rput_same D.dur ao D.uns.length c a d (by omega) hd 130 (.inl ⟨by rw [hdl]; exact hli, rfl⟩) w).mono ?_
    rintro e w' ⟨rfl, hB'⟩
    exact ⟨ao, c, rfl, h.below hB', hB', fun j hj => .inl hj⟩
  | true =>
    rw [if_pos rfl]
    by_cases h0 : 0 < d.length
    · rw [if_pos ⟨rfl, h0⟩]
      obtain ⟨i, k, rfl, _, _⟩ := liesB_true hli
      rw [Int.toNat_natCast]
      refine (rput_ok D.dur h i d (by omega) hd h0 (by rw [hdl]; exact hli) hl).mono ?_
      rintro e w' ⟨v', rfl, hR, hB'⟩
      obtain ⟨a', c', ev'⟩ := hR.shape
      subst ev'
      exact ⟨a', c', rfl, hR.raise (fun j hj => Nat.le_trans hB (hR.ge j hj).1), hB', fun j hj => .inr (hR.ge j hj).1⟩
    · rw [if_neg (fun h => h0 h.2)]
      have he : d = [] := List.eq_nil_of_length_eq_zero (by omega)
      subst ev
      refine (rput_same D.dur ao D.uns.length c a d (by omega) hd 0 (.inr ⟨by rw [hdl]; exact hli, he, rfl⟩) w).mono ?_
      rintro e w' ⟨rfl, hB'⟩
      exact ⟨ao, c, rfl, h.below hB', hB', fun j hj => .inl hj⟩

theorem blk_ne {w : World} {a b : Nat} {c d : Array Value} {s t : TypeId} {f g : Nat × Nat} (ha : w.heap[a]? = some (.cells c s f)) (hb : w.heap[b]? = some (.cells d t g)) (hne : s ≠ t) : a ≠ b := by
  intro e
  subst e
  rw [ha] at hb
  injection hb with hb
  injection hb with _ e _
  exact hne e
theorem row_type {w : World} {base : Nat} {e : TypeId} {size : Nat} {v : Value} {n : Nat} {xs : List Value} (h : w.ownsRow base e size v n xs) : ∀ k, v.ownBlock = some k → ∃ c, w.heap[k]? = some (.cells c e (0, 0)) := by
  intro k hk
  rcases h.2 with ⟨hv, _⟩ | ⟨g, cap, cur, hv, _, hh, _⟩
  · rw [hv] at hk; cases hk
  · rw [hv] at hk; injection hk with hk; subst hk; exact ⟨_, hh⟩

/-- A disk and its first copy of the call's own, and the document's two, whose values lie in two blocks. -/
structure QSt (W w : World) (p q b b2 : Nat) (v : Value) (r s : Nat → Nat) (N : Nat) (D R D0 : DS) : Prop where
  m : Mine W w p r N D
  f : Mine W w q s N D0
  ap : Apart r s
  box : w.heap[b]? = some (.cells #[.string (str8 R.dur), v] 66 (0, 0))
  box2 : w.heap[b2]? = some (.cells #[.string (str8 D0.dur), .slice none 0 0] 66 (0, 0))
  nil0 : D0.uns = []
  bb : b ≠ b2
  bs : W.heap.size ≤ b ∧ W.heap.size ≤ b2
  rb : r b = 0 ∧ s b = 0 ∧ r b2 = 0 ∧ s b2 = 0
  rw : RW w W.heap.size v R.uns
  vr : ∀ j, v.ownBlock = some j → r j = 0 ∧ s j = 0

section
variable {W w w' : World} {p q b b2 : Nat} {v : Value} {r s : Nat → Nat} {N : Nat} {D R D0 : DS}
theorem QSt.vb (h : QSt W w p q b b2 v r s N D R D0) : ∀ j, v.ownBlock = some j → j ≠ b ∧ j ≠ b2 := fun j hj => by
  obtain ⟨c, hc⟩ := h.rw.ty j hj
  exact ⟨blk_ne hc h.box (by decide), blk_ne hc h.box2 (by decide)⟩
theorem QSt.other (h : QSt W w p q b b2 v r s N D R D0) {S : Nat → Prop} (hO : Only S w w') (hS : ∀ k, S k → W.heap.size ≤ k) (h1 : ∀ k, r k ≠ 0 → ¬ S k) (h1' : ∀ k, s k ≠ 0 → ¬ S k) (h2 : ¬ S b) (h2' : ¬ S b2) (h3 : ∀ j, v.ownBlock = some j → ¬ S j) : QSt W w' p q b b2 v r s N D R D0 :=
  have hb := h.m.bel.trans (hO.below h.m.bel.size (fun k hk e => by have := hS k e; omega))
  ⟨h.m.other hO h1 hb, h.f.other hO h1' hb, h.ap, hO.keep h.box h2, hO.keep h.box2 h2', h.nil0, h.bb, h.bs, h.rb, h.rw.keep hO h3, h.vr⟩
theorem QSt.below (h : QSt W w p q b b2 v r s N D R D0) (hB : Below w.heap.size w w') : QSt W w' p q b b2 v r s N D R D0 :=
  h.other (Below.only hB (fun _ => False)) (fun _ h => h.elim) (fun _ _ h => h) (fun _ _ h => h) (fun h => h) (fun h => h) (fun _ _ h => h)
theorem QSt.step {r' : Nat → Nat} {D' : DS} (h : QSt W w p q b b2 v r s N D R D0) (hD : Dsk w' p r' N D') (hO : Only (fun k => r k ≠ 0) w w') (hr : ∀ k, r' k ≠ 0 → r k ≠ 0 ∨ w.heap.size ≤ k) : QSt W w' p q b b2 v r' s N D' R D0 := by
  have hz : ∀ j, j < w.heap.size → r j = 0 → r' j = 0 := fun j hj h0 => by
    rcases Nat.eq_zero_or_pos (r' j) with e | e
    · exact e
    · rcases hr j (by omega) with h1 | h1
      · exact absurd h0 h1
      · omega
  have hm := h.m.step hD hO hr
  exact ⟨hm, h.f.other hO h.ap.not hm.bel, h.ap.step hr h.f.d.lt, hO.keep h.box (fun e => e h.rb.1), hO.keep h.box2 (fun e => e h.rb.2.2.1), h.nil0, h.bb, h.bs,
    ⟨hz b (lt_of_obj h.box) h.rb.1, h.rb.2.1, hz b2 (lt_of_obj h.box2) h.rb.2.2.1, h.rb.2.2.2⟩, h.rw.keep hO (fun k hk e => e (h.vr k hk).1), fun j hj => ⟨hz j (h.rw.ge j hj).2 (h.vr j hj).1, (h.vr j hj).2⟩⟩
/-- Another value in the box. -/
theorem QSt.put {v' : Value} {R' : DS} (h : QSt W w p q b b2 v r s N D R D0) (hb : w'.heap[b]? = some (.cells #[.string (str8 R'.dur), v'] 66 (0, 0))) (hO : Only (· = b) w w') (hR : RW w W.heap.size v' R'.uns) (hv : ∀ j, v'.ownBlock = some j → r j = 0 ∧ s j = 0) : QSt W w' p q b b2 v' r s N D R' D0 := by
  have hne : ∀ j, v'.ownBlock = some j → ¬ j = b := fun j hj => by
    obtain ⟨c, hc⟩ := hR.ty j hj
    exact blk_ne hc h.box (by decide)
  have hbel := h.m.bel.trans (hO.below h.m.bel.size (fun k hk e => by have := h.bs.1; omega))
  exact ⟨h.m.other hO (fun k hk e => by subst e; exact hk h.rb.1) hbel, h.f.other hO (fun k hk e => by subst e; exact hk h.rb.2.1) hbel, h.ap, hb, hO.keep h.box2 (fun e => h.bb e.symm), h.nil0, h.bb, h.bs, h.rb, hR.keep hO hne, hv⟩
end

/-- Ahead of each round. -/
def QRel (W : World) (p q b b2 : Nat) (s : Nat → Nat) (N : Nat) (D0 : DS) (n : Nat) (i : Value) (w : World) : Prop :=
  ∃ (k : Nat) (r : Nat → Nat) (D : DS) (v : Value), i = .int .i64 k ∧ k ≤ n ∧ D.uns.length ≤ k ∧ QSt W w p q b b2 v r s N D D D0
/-- Behind the call itself. -/
def QMid (W : World) (p q b b2 : Nat) (s : Nat → Nat) (N : Nat) (D0 : DS) (k : Nat) (y : Value) (n : Nat) (zs : List Nat) (w : World) : Prop :=
  ∃ (r : Nat → Nat) (D : DS) (v : Value), D.uns.length ≤ k + 1 ∧ QSt W w p q b b2 v r s N D D D0 ∧ Own8 w W.heap.size y zs ∧ zs.length = n ∧ ∀ j, y.ownBlock = some j → r j = 0 ∧ s j = 0

theorem set2_blk {w : World} {b : Nat} {a0 a1 : Value} {T : TypeId} (h : w.heap[b]? = some (.cells #[a0, a1] T (0, 0))) (x0 x1 : Value) :
    ((w.setCell ⟨b, 0, none⟩ x0).setCell ⟨b, 1, none⟩ x1).heap[b]? = some (.cells #[x0, x1] T (0, 0)) ∧ Only (· = b) w ((w.setCell ⟨b, 0, none⟩ x0).setCell ⟨b, 1, none⟩ x1) :=
  ⟨setCell_block (setCell_block h 0 x0) 1 x1, Only.setCell (S := (· = b)) (p := ⟨b, 1, none⟩) (Only.setCell (S := (· = b)) (p := ⟨b, 0, none⟩) (Only.refl _ w) (fun _ => rfl) x0) (fun _ => rfl) x1⟩
end Go.Proofs.Ytbgjahgmkbbgjaa

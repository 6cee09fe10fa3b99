/- Bytes that are written over. -/
import Derived.Test.YtbgjahgmkbbgjaaDr8
namespace Go.Proofs.Ytbgjahgmkbbgjaa
open Go.RowKit

/-- So many bytes lie there, in a block from a place on. -/
def Byt (base : Nat) (w : World) (a : Option Addr) (n : Nat) : Prop :=
  0 < n → ∃ g cur, a = some ⟨g, 0, none⟩ ∧ base ≤ g ∧ w.heap[g]? = some (.cells cur 5 (0, 0)) ∧ ∀ j, j < n → ∃ z : Int, cur[j]? = some (.int .u8 z)

theorem byt_own {w : World} {base : Nat} {a : Option Addr} {n c : Nat} {zs : List Nat} (h : Own8 w base (.slice a n c) zs) (hn : zs.length = n) : Byt base w a n := by
  intro h0
  rcases h.2 with ⟨hv, h1⟩ | ⟨g, cap, cur, hv, hg, hh, hnc, hcm, hcs, hx⟩
  · omega
  · injection hv with e1 e2 e3
    refine ⟨g, cur, e1, hg, hh, fun j hj => ⟨(zs.getD j 0 : Nat), ?_⟩⟩
    have e := u8s_get zs j (by omega)
    rw [← hx] at e
    rw [List.getElem?_take_of_lt (by omega)] at e
    simpa using e
theorem Byt.set {base : Nat} {w : World} {a : Option Addr} {n : Nat} (h : Byt base w a n) (g j : Nat) (z : Int) : Byt base (w.setCell ⟨g, j, none⟩ (.int .u8 z)) a n := by
  intro h0
  obtain ⟨g', cur, e, hb, hh, hx⟩ := h h0
  by_cases hg : g' = g
  · subst hg
    refine ⟨g', _, e, hb, setCell_block hh _ _, fun i hi => ?_⟩
    obtain ⟨z', hz'⟩ := hx i hi
    by_cases hji : j = i
    · subst hji
      exact ⟨z, by rw [Array.getElem?_setIfInBounds_self_of_lt (Array.getElem?_eq_some_iff.1 hz').1]⟩
    · rw [Array.getElem?_setIfInBounds_ne hji]
      exact ⟨z', hz'⟩
  · exact ⟨g', cur, e, hb, (setCell_block_other j _ hg).trans hh, hx⟩
theorem Byt.keep {base : Nat} {w w' : World} {a : Option Addr} {n : Nat} (h : Byt base w a n) (hB : Below w.heap.size w w') : Byt base w' a n := by
  intro h0
  obtain ⟨g', cur, e, hb, hh, hx⟩ := h h0
  exact ⟨g', cur, e, hb, (hB.block g' (lt_of_obj hh)).trans hh, hx⟩
theorem Byt.lower {base base' : Nat} {w : World} {a : Option Addr} {n : Nat} (h : Byt base w a n) (hb : base' ≤ base) : Byt base' w a n := fun h0 =>
  let ⟨g, cur, e, h1, h2⟩ := h h0
  ⟨g, cur, e, Nat.le_trans hb h1, h2⟩

/-- Rows of writes whose bytes are written over. -/
def URow (base : Nat) (w : World) (lo : Option Addr) (L : List (Nat × List Nat)) : Prop :=
  ∀ i (a : Nat) d, L[i]? = some (a, d) → ∃ g ya yc c, lo = some ⟨g, 0, none⟩ ∧ w.heap[g]? = some (.cells c 46 (0, 0)) ∧ w.cell? ⟨g, i * 2 + 1, none⟩ = some (.slice ya d.length yc) ∧ Byt base w ya d.length
theorem URow.set {base : Nat} {w : World} {lo : Option Addr} {L : List (Nat × List Nat)} (h : URow base w lo L) {g : Nat} {cur : Array Value} (hg : w.heap[g]? = some (.cells cur 5 (0, 0))) (j : Nat) (z : Int) : URow base (w.setCell ⟨g, j, none⟩ (.int .u8 z)) lo L := fun i a d hi => by
  obtain ⟨g', ya, yc, c, e, hh, hc, hb⟩ := h i a d hi
  have hne : g' ≠ g := blk_ne hh hg (by decide)
  have hh' := (setCell_block_other j (.int .u8 z) hne).trans hh
  exact ⟨g', ya, yc, c, e, hh', (World.cell?_of_block (w := w) (setCell_block_other j (.int .u8 z) hne)).trans hc, hb.set g j z⟩
theorem URow.keep {base : Nat} {w w' : World} {lo : Option Addr} {L : List (Nat × List Nat)} (h : URow base w lo L) (hB : Below w.heap.size w w') : URow base w' lo L := fun i a d hi => by
  obtain ⟨g', ya, yc, c, e, hh, hc, hb⟩ := h i a d hi
  exact ⟨g', ya, yc, c, e, (hB.block g' (lt_of_obj hh)).trans hh, (hB.cell (p := ⟨g', i * 2 + 1, none⟩) (lt_of_obj hh)).trans hc, hb.keep hB⟩
theorem URow.lower {base base' : Nat} {w : World} {lo : Option Addr} {L : List (Nat × List Nat)} (h : URow base w lo L) (hb : base' ≤ base) : URow base' w lo L := fun i a d hi =>
  let ⟨g', ya, yc, c, e, hh, hc, hy⟩ := h i a d hi
  ⟨g', ya, yc, c, e, hh, hc, hy.lower hb⟩
theorem fates_only {w w' : World} {v : Value} {fs : List (Int × Int)} (h : Fates w v fs) {S : Nat → Prop} (hO : Only S w w') (hS : 0 < fs.length → ∀ k, v.ownBlock = some k → ¬ S k) : Fates w' v fs := by
  by_cases h0 : 0 < fs.length
  · exact h.keep hO.size (fun k hk => hO.block k (h.lt h0 k hk) (hS h0 k hk))
  · obtain ⟨ao, cap, e, _⟩ := h
    exact ⟨ao, cap, e, fun h => absurd h h0⟩
theorem NewW.urow {base : Nat} {w : World} {F : Nat → Prop} {a : Option Addr} {n c : Nat} {xs : List Value} {l : List (Nat × List Nat)} (h : NewW base w F (.slice a n c) xs l) : URow base w a l := fun i b d hi => by
  have hil := (List.getElem?_eq_some_iff.1 hi).1
  obtain ⟨g, cp, hv, hg, hc⟩ := row_at h.row i hil
  obtain ⟨a', d', y, e1, e2, e3, hy, hF⟩ := h.wcs.get i hil
  have hxl := h.wcs.len
  rw [hi] at e1
  injection e1 with e1
  injection e1 with h1 h2
  subst h1 h2
  obtain ⟨ya, yc, ey⟩ := own_shape hy
  subst ey
  injection hv with hv _ _
  obtain ⟨cc, hcc⟩ := row_type h.row g (by rw [hv]; rfl)
  refine ⟨g, ya, yc, cc, hv, hcc, (hc _ (by omega)).trans e3, fun h0 => ?_⟩
  obtain ⟨g2, cur, e, _, hh, hx⟩ := byt_own hy rfl h0
  exact ⟨g2, cur, e, h.ge g2 (hF g2 (by rw [e]; rfl)), hh, hx⟩

theorem new_in {w w' : World} {cs : Array Value} {T : TypeId} (h : Below (w.alloc (.cells cs T)).drew.heap.size (w.alloc (.cells cs T)).drew w') : w'.heap[w.heap.size]? = some (.cells cs T (0, 0)) :=
  (h.block w.heap.size (lt_of_obj (w := w.alloc (.cells cs T)) (alloc_block_new w _))).trans (alloc_block_new w _)

/-- Own bytes that are written over, up to one. -/
def ORel (wi : World) (y : Value) (a : Option Addr) (n : Nat) (j : Value) (wr : World) : Prop :=
  ∃ m : Nat, j = .int .i64 m ∧ m ≤ n ∧ Only (fun b => y.ownBlock = some b) wi wr ∧ Byt 0 wr a n
/-- Two readings that are written over. -/
def XRel (wt : World) (xa va : Option Addr) (n : Nat) (lo : Option Addr) (L : List (Nat × List Nat)) (j : Value) (wr : World) : Prop :=
  ∃ m : Nat, j = .int .i64 m ∧ m ≤ n ∧ Below wt.heap.size wt wr ∧ Byt wt.heap.size wr xa n ∧ Byt wt.heap.size wr va n ∧ URow wt.heap.size wr lo L
/-- The unsynced, written over. -/
def UnRel (wt : World) (lo : Option Addr) (L : List (Nat × List Nat)) (j : Value) (wr : World) : Prop :=
  ∃ m : Nat, j = .int .i64 m ∧ m ≤ L.length ∧ Below wt.heap.size wt wr ∧ URow wt.heap.size wr lo L
def ZRel (wt : World) (lo : Option Addr) (L : List (Nat × List Nat)) (n : Nat) (j : Value) (wr : World) : Prop :=
  ∃ m : Nat, j = .int .i64 m ∧ m ≤ n ∧ Below wt.heap.size wt wr ∧ URow wt.heap.size wr lo L
/-- The two turns. -/
def TRel (w0 : World) (t : Value) (wr : World) : Prop := ∃ k : Nat, t = .int .i64 k ∧ k ≤ 2 ∧ Below w0.heap.size w0 wr
/-- Behind the first copy. -/
def CRel0 (W w5 : World) (p : Nat) (r : Nat → Nat) (N : Nat) (D0 : DS) (b : Nat) (u13 u14 : Value) (w : World) : Prop :=
  ∃ q b2 s, u13 = .pointer (some ⟨q, 0, none⟩) ∧ u14 = .pointer (some ⟨b2, 0, none⟩) ∧ QSt W w p q b b2 (.slice none 0 0) r s N D0 D0 D0
theorem cr0_of {W w3 w4 w5 : World} {p q b b2 : Nat} {r s : Nat → Nat} {N : Nat} {D0 : DS} (hM : Mine W w3 p r N D0) (hb : w3.heap[b]? = some (.cells #[.string (str8 D0.dur), .slice none 0 0] 66 (0, 0))) (hrb : r b = 0) (hbs : W.heap.size ≤ b) (h0 : D0.uns = [])
    (hB4 : Below w3.heap.size w3 w4) (hD4 : Dsk w4 q s N D0) (hs : ∀ k, s k ≠ 0 → w3.heap.size ≤ k ∧ k < w4.heap.size) (hO : Only (· = b2) w4 w5) (hb2 : w5.heap[b2]? = some (.cells #[.string (str8 D0.dur), .slice none 0 0] 66 (0, 0))) (hge : w3.heap.size ≤ b2) (hs2 : s b2 = 0) :
    QSt W w5 p q b b2 (.slice none 0 0) r s N D0 D0 D0 := by
  have hbl := lt_of_obj hb
  have hbel4 := hM.bel.trans (hB4.mono hM.bel.size)
  have hbel5 := hbel4.trans (hO.below hbel4.size (fun k hk e => by have := hM.bel.size; omega))
  refine ⟨(hM.below hB4).other hO (fun k hk e => by subst e; have := hM.d.lt k hk; omega) hbel5, ⟨hD4.keep hO (fun k hk e => by subst e; exact hk hs2), fun k hk => Nat.le_trans hM.bel.size (hs k hk).1, hbel5⟩, fun k hk => ?_, ?_, hb2, h0, by omega, ⟨hbs, Nat.le_trans hM.bel.size hge⟩, ⟨hrb, ?_, hM.free hge, hs2⟩, .inl ⟨rfl, h0⟩, fun j hj => by simp [Value.ownBlock] at hj⟩
  · rcases Nat.eq_zero_or_pos (s k) with e | e
    · exact e
    · have h1 := (hs k (by omega)).1
      have h2 := hM.d.lt k hk
      omega
  · exact hO.keep ((hB4.block b hbl).trans hb) (by omega)
  · rcases Nat.eq_zero_or_pos (s b) with e | e
    · exact e
    · have h1 := (hs b (by omega)).1; omega
end Go.Proofs.Ytbgjahgmkbbgjaa

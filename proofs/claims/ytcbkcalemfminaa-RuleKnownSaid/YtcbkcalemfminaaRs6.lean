/- What stays between the calls of RulePlays. -/
import Derived.Test.YtcbkcalemfminaaRs5
import Derived.Test.YtcbkcalemfminaaRuh
namespace Go.Proofs.Ytcbkcalemfminaa
open Go.RowKit

/-- A row of keys. -/
def Keys (w : World) (v : Value) (ks : List Ky) : Prop :=
  ∃ ao cap, v = .slice ao ks.length cap ∧ (0 < ks.length → ∃ b o, ao = some ⟨b, o, none⟩ ∧ b < w.heap.size ∧ ∀ i k, ks[i]? = some k → k.Ok ∧ w.rangeAt b (o + i * 37) k.cs)
theorem Keys.below {w w' : World} {v : Value} {ks : List Ky} (h : Keys w v ks) (hB : Below w.heap.size w w') : Keys w' v ks := by
  obtain ⟨ao, cap, e, h⟩ := h
  refine ⟨ao, cap, e, fun h0 => ?_⟩
  obtain ⟨b, o, e, hb, hA⟩ := h h0
  exact ⟨b, o, e, Nat.lt_of_lt_of_le hb hB.size, fun i r hi => ⟨(hA i r hi).1, range_below (hA i r hi).2 hb hB⟩⟩

/-- What stays: the classifier, the document's rules, the row of counts. -/
structure RP (W w : World) (B T p : Nat) (o : Ru) (l : List Ru) (rv hv : Value) (hs hs2 : List Nat) : Prop where
  bel : Below W.heap.size W w
  c : IsC w B T p o l hs
  rr : OwnRR w W.heap.size rv l
  rlt : ∀ k, rv.ownBlock = some k → k < B
  hh : w.ownsRow T 62 1 hv hs2.length (hCells hs2)
  wb : W.heap.size ≤ B
section
variable {W w w' : World} {B T p : Nat} {o : Ru} {l : List Ru} {rv hv : Value} {hs hs2 : List Nat}
theorem RP.only (h : RP W w B T p o l rv hv hs hs2) {S : Nat → Prop} (hO : Only S w w') (h1 : ∀ k, S k → T ≤ k) (h2 : ∀ k, hv.ownBlock = some k → ¬ S k) : RP W w' B T p o l rv hv hs hs2 :=
  ⟨h.bel.trans (hO.below h.bel.size (fun k hk e => by have := h1 k e; have := h.c.bp; have := h.wb; omega)), h.c.only hO (fun k h3 h4 e => by have := h1 k e; omega),
    own_only h.rr hO (fun k hk e => by have := h1 k e; have := h.rlt k hk; have := h.c.bp; omega), h.rlt, own_only h.hh hO h2, h.wb⟩
theorem RP.below (h : RP W w B T p o l rv hv hs hs2) (hB : Below w.heap.size w w') : RP W w' B T p o l rv hv hs hs2 :=
  ⟨h.bel.trans (hB.mono h.bel.size), h.c.below hB, own_kept h.rr hB, h.rlt, own_kept h.hh hB, h.wb⟩
theorem RP.told {hs' : List Nat} (h : RP W w B T p o l rv hv hs hs2) (hC : IsC w' B T p o l hs') (hO : Only (fun j => B ≤ j ∧ j < T) w w') : RP W w' B T p o l rv hv hs' hs2 :=
  ⟨h.bel.trans (hO.below h.bel.size (fun k hk e => by have := h.wb; omega)), hC, own_only h.rr hO (fun k hk e => by have := h.rlt k hk; omega), h.rlt, own_only h.hh hO (fun k hk e => by have := own_ge h.hh k hk; omega), h.wb⟩
theorem RP.bl (h : RP W w B T p o l rv hv hs hs2) : B ≤ w.heap.size := by have := h.c.bp; have := h.c.top; omega
end

theorem cells_at {w : World} {C : Nat} {hv : Value} {hs : List Nat} (h : w.ownsRow C 62 1 hv hs.length (hCells hs)) {i : Nat} (hi : i < hs.length) :
    ∃ g cap cur, hv = .slice (some ⟨g, 0, none⟩) hs.length cap ∧ C ≤ g ∧ hs.length ≤ cap ∧ w.heap[g]? = some (.cells cur 62 (0, 0)) ∧ w.cell? ⟨g, i, none⟩ = some (.int .u64 (hs.getD i 0 : Nat)) ∧
      ∀ x : Nat, (w.setCell ⟨g, i, none⟩ (.int .u64 (x : Nat))).ownsRow C 62 1 hv (hs.set i x).length (hCells (hs.set i x)) := by
  rcases h.2 with ⟨_, e⟩ | ⟨g, cap, cur, hv', hg, hh, hc, hm, hs', hx⟩
  · omega
  · refine ⟨g, cap, cur, hv', hg, hc, hh, ?_, fun x => ?_⟩
    · rw [cell_of_block hh]
      have e : (hCells hs)[i]? = some (.int .u64 (hs.getD i 0 : Nat)) := by
        simp [hCells, List.getD_eq_getElem?_getD, List.getElem?_eq_getElem hi]
      rw [← hx, List.getElem?_take_of_lt (by omega)] at e
      simpa using e
    · refine ⟨by simp [hCells], .inr ⟨g, cap, cur.setIfInBounds i (.int .u64 (x : Nat)), by rw [List.length_set]; exact hv', hg, setCell_block hh i _, by rw [List.length_set]; exact hc, hm, by rw [Array.size_setIfInBounds]; exact hs', ?_⟩⟩
      have e : hCells (hs.set i x) = (hCells hs).set i (.int .u64 (x : Nat)) := by simp [hCells, List.map_set]
      rw [e, ← hx, List.length_set]
      simp [List.take_set]

theorem RP.cell {W w : World} {B T p : Nat} {o : Ru} {l : List Ru} {rv : Value} {h m c : Nat} {hs hs2 : List Nat} (R : RP W w B T p o l rv (.slice (some ⟨h, 0, none⟩) m c) hs hs2) {i : Nat} (hi : i < hs2.length) :
    w.cell? ⟨h, i, none⟩ = some (.int .u64 (hs2.getD i 0 : Nat)) ∧ w.frozen? ⟨h, i, none⟩ = false ∧ T ≤ h ∧ ∀ x : Nat, RP W (w.setCell ⟨h, i, none⟩ (.int .u64 (x : Nat))) B T p o l rv (.slice (some ⟨h, 0, none⟩) m c) hs (hs2.set i x) := by
  obtain ⟨g, cap, cur, e, hg, hc, hb, hcell, hset⟩ := cells_at R.hh hi
  injection e with e1 _ _
  injection e1 with e1
  injection e1 with e1
  subst e1
  have hT := R.c.top
  have hwb := R.wb
  have hbp := R.c.bp
  refine ⟨hcell, free_of_block hb i, hg, fun x => ?_⟩
  have hO : Only (· = h) w (w.setCell ⟨h, i, none⟩ (.int .u64 (x : Nat))) := Only.setCell (p := ⟨h, i, none⟩) (Only.refl (· = h) w) (fun _ => rfl) _
  exact ⟨R.bel.trans (hO.below R.bel.size (fun k hk e => by omega)), R.c.only hO (fun k _ h2 e => by omega), own_only R.rr hO (fun k hk e => by have := R.rlt k hk; omega), R.rlt, hset x, R.wb⟩

/-- The counts behind some keys. -/
def hitsTo (l : List Ru) (ks : List Ky) : List Nat := ks.foldl (fun hs k => bump hs (place l k)) (List.replicate (l.length + 1) 0)
theorem bump_len (hs : List Nat) (i : Nat) : (bump hs i).length = hs.length := by
  unfold bump
  split
  · rw [List.length_set]
  · rfl
theorem hitsTo_snoc (l : List Ru) (ks : List Ky) (k : Ky) : hitsTo l (ks ++ [k]) = bump (hitsTo l ks) (place l k) := by simp [hitsTo, List.foldl_append]
theorem bump_le {hs : List Nat} {i n : Nat} (h : ∀ j, hs.getD j 0 ≤ n) : ∀ j, (bump hs i).getD j 0 ≤ n + 1 := by
  intro j
  have hj := h j
  unfold bump
  split
  · by_cases e : i = j
    · subst e
      by_cases hl : i < hs.length
      · rw [List.getD_eq_getElem?_getD, List.getElem?_set_self hl]
        exact Nat.succ_le_succ hj
      · rw [List.getD_eq_getElem?_getD, List.getElem?_eq_none (by rw [List.length_set]; omega)]
        exact Nat.zero_le _
    · rw [List.getD_eq_getElem?_getD, List.getElem?_set_ne e, ← List.getD_eq_getElem?_getD]
      omega
  · omega
theorem hitsTo_le (l : List Ru) (ks : List Ky) : (hitsTo l ks).length = l.length + 1 ∧ ∀ j, (hitsTo l ks).getD j 0 ≤ ks.length := by
  have : ∀ (ks : List Ky) (hs : List Nat) (n : Nat), (∀ j, hs.getD j 0 ≤ n) → (ks.foldl (fun hs k => bump hs (place l k)) hs).length = hs.length ∧ ∀ j, (ks.foldl (fun hs k => bump hs (place l k)) hs).getD j 0 ≤ n + ks.length := by
    intro ks
    induction ks with
    | nil => intro hs n h; exact ⟨rfl, fun j => by have := h j; simpa using this⟩
    | cons k ks ih =>
      intro hs n h
      obtain ⟨h1, h2⟩ := ih (bump hs (place l k)) (n + 1) (bump_le h)
      refine ⟨by rw [List.foldl_cons, h1, bump_len], fun j => ?_⟩
      have := h2 j
      rw [List.foldl_cons, List.length_cons]
      omega
  obtain ⟨h1, h2⟩ := this ks (List.replicate (l.length + 1) 0) 0 (fun j => by
    rw [List.getD_eq_getElem?_getD, List.getElem?_replicate]
    split <;> simp)
  refine ⟨by rw [hitsTo, h1]; simp, fun j => ?_⟩
  have := h2 j
  unfold hitsTo
  omega
theorem bump_set {hs : List Nat} {i n : Nat} (h : hs.getD i 0 ≤ n) (hn : n < 1000000) : bump hs i = hs.set i (hs.getD i 0 + 1) := by
  unfold bump
  rw [if_pos (by omega)]
theorem takeK_snoc {ks : List Ky} {i : Nat} {k : Ky} (h : ks[i]? = some k) : ks.take (i + 1) = ks.take i ++ [k] := by
  rw [List.take_add_one, h]
  rfl

/-- A cell of a row of the call's own, of elements of one cell. -/
theorem own1_set {w : World} {C : Nat} {e : TypeId} {v : Value} {n : Nat} {xs : List Value} (h : w.ownsRow C e 1 v n xs) {i : Nat} (hi : i < n) :
    ∃ g cap, v = .slice (some ⟨g, 0, none⟩) n cap ∧ C ≤ g ∧ g < w.heap.size ∧ w.cell? ⟨g, i, none⟩ = xs[i]? ∧ (∃ u, xs[i]? = some u) ∧ w.frozen? ⟨g, i, none⟩ = false ∧ ∀ u, (w.setCell ⟨g, i, none⟩ u).ownsRow C e 1 v n (xs.set i u) := by
  obtain ⟨hl, h⟩ := h
  rcases h with ⟨_, e⟩ | ⟨g, cap, cur, hv', hg, hh, hc, hm, hs', hx⟩
  · omega
  · refine ⟨g, cap, hv', hg, lt_of_obj hh, ?_, ⟨xs[i], List.getElem?_eq_getElem (by omega)⟩, free_of_block hh i, fun u => ?_⟩
    · rw [cell_of_block hh, ← hx, List.getElem?_take_of_lt (by omega)]
      simp
    · refine ⟨by rw [List.length_set]; exact hl, .inr ⟨g, cap, cur.setIfInBounds i u, hv', hg, setCell_block hh i _, hc, hm, by rw [Array.size_setIfInBounds]; exact hs', ?_⟩⟩
      rw [← hx]
      simp [List.take_set]
/-- Between the two turns. -/
structure TwSt (W w : World) (B T p : Nat) (o : Ru) (l : List Ru) (rv hv : Value) (hs : List Nat) (D : Nat) (dv : Value) : Prop where
  r : RP W w B T p o l rv hv hs hs
  d : w.ownsRow D 3 1 dv (deads l).length (iCells (deads l))
theorem TwSt.below {W w w' : World} {B T p : Nat} {o : Ru} {l : List Ru} {rv hv : Value} {hs : List Nat} {D : Nat} {dv : Value} (h : TwSt W w B T p o l rv hv hs D dv) (hB : Below w.heap.size w w') : TwSt W w' B T p o l rv hv hs D dv := ⟨h.r.below hB, own_kept h.d hB⟩
end Go.Proofs.Ytcbkcalemfminaa

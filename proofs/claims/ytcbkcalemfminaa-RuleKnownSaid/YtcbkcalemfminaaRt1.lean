/- Rows of keys of a call's own; small rows of rules. -/
import Derived.Test.YtcbkcalemfminaaRs9
import Derived.Test.YtcbkcalemfminaaRum
namespace Go.Proofs.Ytcbkcalemfminaa
open Go.RowKit

def kCells (ks : List Ky) : List Value := ks.flatMap Ky.cs
theorem kCells_len {ks : List Ky} (h : ∀ k ∈ ks, k.Ok) : (kCells ks).length = ks.length * 37 := by
  induction ks with
  | nil => rfl
  | cons x L ih =>
    have h1 := ih (fun r hr => h r (List.mem_cons_of_mem _ hr))
    have h2 := (h x (List.mem_cons_self ..)).len
    simp only [kCells, List.flatMap_cons, List.length_append, List.length_cons] at h1 ⊢
    omega
theorem kCells_app (a b : List Ky) : kCells (a ++ b) = kCells a ++ kCells b := by simp [kCells]
theorem ky_split {ks : List Ky} {i : Nat} {k : Ky} (hi : ks[i]? = some k) : ks = ks.take i ++ k :: ks.drop (i + 1) := by
  have hil := (List.getElem?_eq_some_iff.1 hi).1
  have : ks.drop i = k :: ks.drop (i + 1) := by
    rw [List.drop_eq_getElem_cons hil]
    congr 1
    exact (List.getElem?_eq_some_iff.1 hi).2
  rw [← this, List.take_append_drop]
theorem ks_part {w : World} {b o : Nat} {ks : List Ky} (hok : ∀ k ∈ ks, k.Ok) (h : w.rangeAt b o (kCells ks)) : ∀ i k, ks[i]? = some k → k.Ok ∧ w.rangeAt b (o + i * 37) k.cs := by
  intro i k hi
  have hs := ky_split hi
  have hil := (List.getElem?_eq_some_iff.1 hi).1
  refine ⟨hok k (List.mem_of_getElem? hi), ?_⟩
  refine range_part (xs := kCells (ks.take i)) (zs := kCells (ks.drop (i + 1))) (n := i * 37) ?_ ?_
  · rw [hs] at h
    simpa [kCells] using h
  · rw [kCells_len (fun x hx => hok x (List.mem_of_mem_take hx)), List.length_take]
    omega
/-- A row of keys of a call's own. -/
abbrev OwnKeys (w : World) (B : Nat) (v : Value) (ks : List Ky) : Prop := w.ownsRow B 28 37 v ks.length (kCells ks)
theorem OwnKeys.keys {w : World} {B : Nat} {v : Value} {ks : List Ky} (h : OwnKeys w B v ks) (hok : ∀ k ∈ ks, k.Ok) : Keys w v ks := by
  rcases h.2 with ⟨hv, h0⟩ | ⟨g, cap, cur, hv, hg, hh, hnc, hcm, hcs, hx⟩
  · exact ⟨none, 0, by rw [hv, h0], fun h => by omega⟩
  · refine ⟨_, cap, hv, fun h0 => ⟨g, 0, rfl, lt_of_obj hh, ?_⟩⟩
    refine ks_part hok ?_
    intro j v hj
    have hjl := (List.getElem?_eq_some_iff.1 hj).1
    rw [kCells_len hok] at hjl
    rw [Nat.zero_add, cell_of_block hh, ← hj, ← hx, List.getElem?_take_of_lt hjl]
    simp
theorem OwnRules.rz {w : World} {B : Nat} {v : Value} {l : List Ru} (h : OwnRules w B v l) : RZ v := by
  intro n c e
  rcases h.2 with ⟨hv, _⟩ | ⟨g, cap, cur, hv, _⟩
  · rw [hv] at e; injection e with _ e1 e2; exact ⟨e1.symm, e2.symm⟩
  · rw [hv] at e; injection e with e1; cases e1
theorem rz_some (a : Addr) (n c : Nat) : RZ (.slice (some a) n c) := by
  intro n c e
  injection e with e1
  cases e1
theorem rz_nil : RZ (.slice none 0 0) := by
  intro n c e
  injection e with _ e1 e2
  exact ⟨e1.symm, e2.symm⟩
theorem rules_nil (w : World) : Rules w (.slice none 0 0) [] := ⟨none, 0, rfl, fun _ => rfl, fun h => absurd h (by simp)⟩
theorem keys_nil (w : World) : Keys w (.slice none 0 0) [] := ⟨none, 0, rfl, fun h => absurd h (by simp)⟩
theorem rules_block {w : World} {g : Nat} {l : List Ru} {n c : Nat} {T : TypeId} (hok : ∀ r ∈ l, r.Ok) (h : w.heap[g]? = some (.cells (rsCells l).toArray T (0, 0))) (hn : n = l.length) : Rules w (.slice (some ⟨g, 0, none⟩) n c) l := by
  subst hn
  exact ⟨_, c, rfl, fun e => absurd e (by simp), fun _ => ⟨g, 0, rfl, lt_of_obj h, rs_part hok (range_block h)⟩⟩

theorem Keys.at {w : World} {g m c : Nat} {ks : List Ky} (h : Keys w (.slice (some ⟨g, 0, none⟩) m c) ks) {i : Nat} {k : Ky} (hi : ks[i]? = some k) : k.Ok ∧ g < w.heap.size ∧ w.rangeAt g (i * 37) k.cs := by
  obtain ⟨ao, cap, e, hh⟩ := h
  injection e with e1 e2 e3
  obtain ⟨b, o, e4, hb, hA⟩ := hh (by have := (List.getElem?_eq_some_iff.1 hi).1; omega)
  rw [← e1] at e4
  injection e4 with e4
  injection e4 with e5 e6
  subst e5
  subst e6
  have := hA i k hi
  exact ⟨this.1, hb, by rw [Nat.zero_add] at this; exact this.2⟩
/-- A key's cells, one of them set. -/
theorem own_kset {w : World} {B : Nat} {v : Value} {ks : List Ky} {i j : Nat} {k k' : Ky} {u : Value} (h : OwnKeys w B v ks) (hok : ∀ k ∈ ks, k.Ok) (hi : ks[i]? = some k) (hk : k.cs.set j u = k'.cs) (hj : j < 37) :
    ∃ g cap, v = .slice (some ⟨g, 0, none⟩) ks.length cap ∧ B ≤ g ∧ g < w.heap.size ∧ (∃ u0, w.cell? ⟨g, i * 37 + j, none⟩ = some u0) ∧ w.frozen? ⟨g, i * 37 + j, none⟩ = false ∧ OwnKeys (w.setCell ⟨g, i * 37 + j, none⟩ u) B v (ks.set i k') := by
  have hil := (List.getElem?_eq_some_iff.1 hi).1
  have hs := ky_split hi
  have hkc := kCells_len hok
  have hlk := (hok k (List.mem_of_getElem? hi)).len
  have hset : (kCells ks).set (i * 37 + j) u = kCells (ks.set i k') := by
    have e1 : ks.set i k' = ks.take i ++ k' :: ks.drop (i + 1) := by
      rw [List.set_eq_take_append_cons_drop, if_pos hil]
    have hl1 : (kCells (ks.take i)).length = i * 37 := by
      rw [kCells_len (fun x hx => hok x (List.mem_of_mem_take hx)), List.length_take]
      omega
    have e2 : kCells ks = kCells (ks.take i) ++ (k.cs ++ kCells (ks.drop (i + 1))) := by
      conv => lhs; rw [hs]
      simp [kCells]
    rw [e1, e2, List.set_append_right _ _ (by omega), List.set_append_left _ _ (by omega), hl1, Nat.add_sub_cancel_left, hk]
    simp [kCells]
  rcases h.2 with ⟨_, e⟩ | ⟨g, cap, cur, hv', hg, hh, hc, hm, hs', hx⟩
  · omega
  · have hcm : i * 37 + j < ks.length * 37 := by omega
    have hcc : ks.length * 37 ≤ cap * 37 := Nat.mul_le_mul_right _ hc
    refine ⟨g, cap, hv', hg, lt_of_obj hh, ⟨cur[i * 37 + j], (cell_of_block hh _).trans (Array.getElem?_eq_getElem (by omega))⟩, free_of_block hh _, ?_⟩
    refine ⟨by rw [← hset, List.length_set, List.length_set]; exact hkc, .inr ⟨g, cap, cur.setIfInBounds (i * 37 + j) u, by rw [List.length_set]; exact hv', hg, setCell_block hh _ _, by rw [List.length_set]; exact hc, hm, by rw [Array.size_setIfInBounds]; exact hs', ?_⟩⟩
    rw [← hset, ← hx, List.length_set]
    simp [List.take_set]
theorem ky_src6 (k : Ky) : k.cs.set 0 (.bool true) = ({ k with src := { k.src with six := true } } : Ky).cs := by
  unfold Ky.cs Ad.cs
  simp
theorem ky_dst6 {k : Ky} (h : k.Ok) : k.cs.set 17 (.bool true) = ({ k with dst := { k.dst with six := true } } : Ky).cs := by
  unfold Ky.cs
  have h1 := h.s.len
  rw [List.append_assoc, List.set_append_right _ _ (by omega), h1]
  unfold Ad.cs
  simp

theorem made_list (n : Nat) : (List.range (n * 44)).map (fun m => (Value.agg Ru.zero.arr).cells[m % 44]!) = rsCells (List.replicate n Ru.zero) := by
  induction n with
  | zero => rfl
  | succ n ih =>
    have h44 : (List.range 44).map (fun m => (Value.agg Ru.zero.arr).cells[m % 44]!) = Ru.zero.cs := by kernel_rfl
    rw [show (n + 1) * 44 = 44 + n * 44 by omega, List.range_add, List.map_append, h44, List.map_map, List.replicate_succ]
    show _ = Ru.zero.cs ++ rsCells (List.replicate n Ru.zero)
    rw [← ih]
    congr 1
    apply List.map_congr_left
    intro m _
    show (Value.agg Ru.zero.arr).cells[(44 + m) % 44]! = _
    rw [Nat.add_mod_left]
theorem made65 : (madeCells (Value.agg Ru.zero.arr).cells 2860).toList = rsCells (List.replicate 65 Ru.zero) := by
  have hs : (Value.agg Ru.zero.arr).cells.size = 44 := by kernel_rfl
  rw [← made_list 65]
  unfold madeCells
  rw [hs]
  simp
theorem make_rules : ∃ C : Array Value, C.toList = rsCells (List.replicate 65 Ru.zero) ∧ ∀ w : World, (Instr.makeSlice 22 (.int .i64 65) (.int .i64 65)).run Try.prog w = .ok (.slice (some ⟨w.heap.size, 0, none⟩) 65 65) (w.alloc (.cells C 43)) := by
  obtain ⟨i0, hi, hz0, hz1, hz2⟩ := info_parts info_ru
  refine ⟨madeCells (Value.agg Ru.zero.arr).cells 2860, made65, fun w => ?_⟩
  have h := run_makeSlice (P := Try.prog) w 22 43 i0 _ Try.underlying22 hi hz0 .i64 .i64 65 65 (by omega) (Int.le_refl _) (by rw [hz1]; decide) (by rw [hz2]; decide) (by omega)
  rw [hz1] at h
  exact h
end Go.Proofs.Ytcbkcalemfminaa

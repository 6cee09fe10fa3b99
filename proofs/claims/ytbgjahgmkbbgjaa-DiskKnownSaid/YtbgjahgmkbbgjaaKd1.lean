/- DiskKnown: fates in a row of the call's own, that is appended to while older parts of it are held. -/
import Derived.Test.YtbgjahgmkbbgjaaKp3
import Derived.Test.YtbgjahgmkbbgjaaDn
import Derived.ArgAppend
namespace Go.Proofs.Ytbgjahgmkbbgjaa
open Go.RowKit

theorem info_fate1 : (Try.prog.info? 44).map (fun i => (i.zero, i.size, i.bytes)) = some (some (.agg #[.int .i64 0, .int .i64 0]), 2, 16) := by kernel_rfl

/-- Fates as cells. -/
def ftCells : List (Int × Int) → List Value
  | [] => []
  | x :: l => .int .i64 x.1 :: .int .i64 x.2 :: ftCells l
theorem ftCells_len (l : List (Int × Int)) : (ftCells l).length = l.length * 2 := by
  induction l with
  | nil => rfl
  | cons x L ih => simp only [ftCells, List.length_cons, ih]; omega
theorem ftCells_snoc (l : List (Int × Int)) (x : Int × Int) : ftCells l ++ [.int .i64 x.1, .int .i64 x.2] = ftCells (l ++ [x]) := by
  induction l with
  | nil => rfl
  | cons y L ih => simp only [ftCells, List.cons_append, ih]
theorem ftCells_get : ∀ (l : List (Int × Int)) (i : Nat) (x : Int × Int), l[i]? = some x → (ftCells l)[i * 2]? = some (.int .i64 x.1) ∧ (ftCells l)[i * 2 + 1]? = some (.int .i64 x.2)
  | [], i, x, h => by simp at h
  | y :: L, 0, x, h => by
    simp at h
    subst h
    exact ⟨rfl, rfl⟩
  | y :: L, i + 1, x, h => by
    have ih := ftCells_get L i x (by simpa using h)
    rw [show (i + 1) * 2 = i * 2 + 2 by omega]
    exact ih

/-- Fates in a row of the call's own. -/
def FRow (w : World) (B : Nat) (v : Value) (fs : List (Int × Int)) : Prop :=
  (v = .slice none 0 0 ∧ fs = []) ∨ ∃ g c cur, v = .slice (some ⟨g, 0, none⟩) fs.length c ∧ B ≤ g ∧ w.heap[g]? = some (.cells cur 44 (0, 0)) ∧ fs.length ≤ c ∧ c * 2 ≤ cur.size ∧ ∀ j, j < fs.length * 2 → cur[j]? = (ftCells fs)[j]?

theorem FRow.only {w w' : World} {B : Nat} {v : Value} {fs : List (Int × Int)} (h : FRow w B v fs) {S : Nat → Prop} (hO : Only S w w') (hS : ∀ k, v.ownBlock = some k → ¬ S k) : FRow w' B v fs := by
  rcases h with h | ⟨g, c, cur, hv, hg, hh, h⟩
  · exact .inl h
  · exact .inr ⟨g, c, cur, hv, hg, hO.keep hh (hS g (by rw [hv]; rfl)), h⟩
theorem FRow.below {w w' : World} {B : Nat} {v : Value} {fs : List (Int × Int)} (h : FRow w B v fs) (hB : Below w.heap.size w w') : FRow w' B v fs := h.only (Below.only hB (fun _ => False)) (fun _ _ h => h)
theorem FRow.shape {w : World} {B : Nat} {v : Value} {fs : List (Int × Int)} (h : FRow w B v fs) : ∃ ao c, v = .slice ao fs.length c := by
  rcases h with ⟨rfl, rfl⟩ | ⟨g, c, cur, hv, _⟩
  · exact ⟨none, 0, rfl⟩
  · exact ⟨_, c, hv⟩
theorem FRow.ty {w : World} {B : Nat} {v : Value} {fs : List (Int × Int)} (h : FRow w B v fs) : ∀ k, v.ownBlock = some k → B ≤ k ∧ k < w.heap.size ∧ ∃ c, w.heap[k]? = some (.cells c 44 (0, 0)) := by
  rcases h with ⟨rfl, _⟩ | ⟨g, c, cur, rfl, hg, hh, _⟩
  · intro k hk; simp [Value.ownBlock] at hk
  · intro k hk
    have : g = k := by injection hk
    subst this
    exact ⟨hg, lt_of_obj hh, _, hh⟩

/-- A part of such a row, from some place on. -/
theorem FRow.part {w : World} {B : Nat} {fs : List (Int × Int)} {g c : Nat} (h : FRow w B (.slice (some ⟨g, 0, none⟩) fs.length c) fs) (m c' : Nat) (hm : m ≤ fs.length) : Fates w (.slice (some ⟨g, m * 2, none⟩) (fs.length - m) c') (fs.drop m) := by
  rcases h with ⟨h, _⟩ | ⟨g', cp, cur, hv, _, hh, _, _, hx⟩
  · simp at h
  · injection hv with e1 _ e3
    injection e1 with e1
    injection e1 with e1
    subst e1
    refine ⟨_, c', by rw [List.length_drop], fun h0 => ⟨g, m * 2, rfl, lt_of_obj hh, fun j k a hj => ?_⟩⟩
    rw [List.length_drop] at h0
    rw [List.getElem?_drop] at hj
    have hl := (List.getElem?_eq_some_iff.1 hj).1
    obtain ⟨c0, c1⟩ := ftCells_get fs _ _ hj
    rw [show m * 2 + j * 2 = (m + j) * 2 by omega]
    exact ⟨(cell_of_block hh _).trans ((hx _ (by omega)).trans c0), (cell_of_block hh _).trans ((hx _ (by omega)).trans c1)⟩
theorem FRow.fates {w : World} {B : Nat} {v : Value} {fs : List (Int × Int)} (h : FRow w B v fs) : Fates w v fs := by
  rcases h with ⟨rfl, rfl⟩ | ⟨g, c, cur, hv, hg, hh, hc, hs, hx⟩
  · exact ⟨none, 0, rfl, fun h => absurd h (by simp)⟩
  · subst hv
    have := FRow.part (w := w) (B := B) (fs := fs) (g := g) (c := c) (.inr ⟨g, c, cur, rfl, hg, hh, hc, hs, hx⟩) 0 c (Nat.zero_le _)
    simpa using this

/-- What an append onto such a row leaves. -/
structure FKeep (w w' : World) (v v' : Value) (n : Nat) : Prop where
  o : Only (fun k => v.ownBlock = some k) w w'
  old : ∀ g, v.ownBlock = some g → ∀ j, j < n * 2 → w'.cell? ⟨g, j, none⟩ = w.cell? ⟨g, j, none⟩
  ty : ∀ g, v.ownBlock = some g → ∃ c, w'.heap[g]? = some (.cells c 44 (0, 0))
  nw : ∀ k, v'.ownBlock = some k → v.ownBlock = some k ∨ w.heap.size ≤ k

theorem run_append_f {w : World} {B : Nat} {v : Value} {fs : List (Int × Int)} (hI : FRow w B v fs) (ad : Addr) (x : Int × Int) (c : Nat) (hnews : ∀ j u, [Value.int .i64 x.1, Value.int .i64 x.2][j]? = some u → w.cell? (ad.add j) = some u) (hlen : fs.length ≤ 100000) (hB : B ≤ w.heap.size) (ty : TypeId) :
    ∃ v' w', (Builtin.append_ #[23, 23] ty #[v, .slice (some ad) 1 c]).run Try.prog w = .ok v' w' ∧ FRow w' B v' (fs ++ [x]) ∧ FKeep w w' v v' fs.length := by
  obtain ⟨i0, hi, hz0, hz1, hz2⟩ := info_parts info_fate1
  have fresh : ∀ (v' : Value) (w' : World), w'.ownsRow w.heap.size 44 2 v' (fs.length + 1) (ftCells fs ++ [Value.int .i64 x.1, Value.int .i64 x.2]) → w.grownBy w' none →
      FRow w' B v' (fs ++ [x]) ∧ FKeep w w' v v' fs.length := by
    intro v' w' ho hg
    refine ⟨?_, ⟨⟨hg.os, hg.tape, hg.output, hg.size, fun k hk _ => hg.block k hk (by simp)⟩, fun g hv j _ => ?_, fun g hv => ?_, fun k hk => .inr (ho.lt k hk).1⟩⟩
    · rcases ho.2 with ⟨_, h0⟩ | ⟨g, cap, cur, hv, hge, hh, hnc, hcm, hcs, hx⟩
      · omega
      · refine .inr ⟨g, cap, cur, by rw [hv]; simp, by omega, hh, by simpa using hnc, by omega, fun j hj => ?_⟩
        rw [ftCells_snoc] at hx
        rw [← hx, List.getElem?_take_of_lt (by simpa using hj)]
        simp
    · obtain ⟨_, hlt, _⟩ := hI.ty g hv
      exact World.cell?_of_block (hg.block g hlt (by simp))
    · obtain ⟨_, hlt, c0, hc⟩ := hI.ty g hv
      exact ⟨c0, (hg.block g hlt (by simp)).trans hc⟩
  rcases hI with ⟨rfl, rfl⟩ | ⟨g, cp, cur, hv, hg, hh, hc, hs, hx⟩
  · obtain ⟨v', w', hrun, r1, r2, _⟩ := run_append_own (P := Try.prog) w w.heap.size 23 ty 44 i0 _ 2 16 Try.underlying23 hi hz0 hz1 hz2 rfl (by omega) (.slice none 0 0) 0 [] (World.ownsRow_nil w _ _ _) ad 1 c [Value.int .i64 x.1, Value.int .i64 x.2] rfl hnews (fun u hu => by simp at hu; rcases hu with rfl | rfl <;> rfl) (by decide) (by decide) (Nat.le_refl _)
    exact ⟨v', w', hrun, fresh v' w' r1 r2⟩
  · subst hv
    by_cases hr : fs.length + 1 ≤ cp
    · have hrun := run_append_room_cells (P := Try.prog) w 23 ty 44 i0 Try.underlying23 hi g 0 fs.length cp ad 1 c [Value.int .i64 x.1, Value.int .i64 x.2] (by rw [hz1]; rfl) hnews (fun u hu => by simp at hu; rcases hu with rfl | rfl <;> rfl) hr
        (fun j hj => by
          simp at hj
          rw [hz1, cell_of_block hh, Array.getElem?_eq_getElem (show 0 + fs.length * 2 + j < cur.size by omega)]
          rfl)
        (fun j _ => free_of_block hh _)
      rw [hz1, Nat.zero_add] at hrun
      have b1 := setCell_block hh (fs.length * 2) (.int .i64 x.1)
      have b2 := setCell_block b1 (fs.length * 2 + 1) (.int .i64 x.2)
      refine ⟨_, _, hrun, .inr ⟨g, cp, _, by simp, hg, b2, by simpa using hr, by simpa using hs, fun j hj => ?_⟩, ⟨?_, fun g' hg' j hj => ?_, fun g' hg' => ?_, fun k hk => .inl hk⟩⟩
      · simp only [List.length_append, List.length_cons, List.length_nil] at hj
        rw [← ftCells_snoc]
        by_cases h1 : j < fs.length * 2
        · rw [Array.getElem?_setIfInBounds_ne (by omega), Array.getElem?_setIfInBounds_ne (by omega), List.getElem?_append_left (by rw [ftCells_len]; exact h1)]
          exact hx j h1
        · rw [List.getElem?_append_right (by rw [ftCells_len]; omega), ftCells_len]
          by_cases h2 : j = fs.length * 2
          · subst h2
            rw [Array.getElem?_setIfInBounds_ne (by omega), Array.getElem?_setIfInBounds_self_of_lt (by omega), Nat.sub_self]
            rfl
          · obtain rfl : j = fs.length * 2 + 1 := by omega
            rw [Array.getElem?_setIfInBounds_self_of_lt (by simp; omega), show fs.length * 2 + 1 - fs.length * 2 = 1 by omega]
            rfl
      · exact Only.setCell (S := fun k => (Value.slice (some ⟨g, 0, none⟩) fs.length cp).ownBlock = some k) (p := ⟨g, fs.length * 2 + 1, none⟩) (Only.setCell (S := fun k => (Value.slice (some ⟨g, 0, none⟩) fs.length cp).ownBlock = some k) (p := ⟨g, fs.length * 2, none⟩) (Only.refl _ w) (fun _ => rfl) (.int .i64 x.1)) (fun _ => rfl) (.int .i64 x.2)
      · obtain rfl : g = g' := by injection hg'
        refine (cell_of_block b2 _).trans (Eq.trans ?_ (cell_of_block hh _).symm)
        rw [Array.getElem?_setIfInBounds_ne (by omega), Array.getElem?_setIfInBounds_ne (by omega)]
      · obtain rfl : g = g' := by injection hg'
        exact ⟨_, b2⟩
    · obtain ⟨v', w', hrun, r1, r2⟩ := run_append_arg_grows (P := Try.prog) w 23 ty 44 i0 _ 2 16 Try.underlying23 hi hz0 hz1 hz2 rfl (by omega) ⟨g, 0, none⟩ fs.length cp (ftCells fs) (ftCells_len fs)
        (fun j u hj => by
          rw [Addr.add_lit, cell_of_block hh, Nat.zero_add]
          have hl := (List.getElem?_eq_some_iff.1 hj).1
          rw [ftCells_len] at hl
          exact (hx j hl).trans hj)
        ad 1 c [Value.int .i64 x.1, Value.int .i64 x.2] rfl hnews (by omega) (by simp only [maxLen]; omega) (by omega)
      exact ⟨v', w', hrun, fresh v' w' r1 r2⟩

theorem wpList_append_f {w : World} {ops : Array Oper} {rest : List Oper} {op : Oper} {a : Act} {Q : Exit → Act → World → Prop} (hgd : op.guard = none) (s x : Operand)
    (ho : op.op = .call { callee := .builtin .append, args := #[s, x], argTypes := #[23, 23] })
    {B : Nat} {v : Value} {fs : List (Int × Int)} (hs : a.eval s = v) (hI : FRow w B v fs) (ad : Addr) (y : Int × Int) (c : Nat) (hx : a.eval x = .slice (some ad) 1 c) (hnews : ∀ j u, [Value.int .i64 y.1, Value.int .i64 y.2][j]? = some u → w.cell? (ad.add j) = some u) (hlen : fs.length ≤ 100000) (hB : B ≤ w.heap.size)
    (h : ∀ v' w', FRow w' B v' (fs ++ [y]) → FKeep w w' v v' fs.length → wpList Try.prog ops Q rest (a.put op.dst v') w') :
    wpList Try.prog ops Q (op :: rest) a w := by
  refine wpList_plain hgd fun K hK => ?_
  obtain ⟨v', w', hr, h2, h3⟩ := run_append_f hI ad y c hnews hlen hB op.type
  unfold Oper.wp execOp
  simp only [ho, resolve, invoke, builtin, Sem.run_bind, Sem.run_pure, Result.andThen_ok, List.map_toArray, List.map_cons, List.map_nil, hs, hx, hr]
  exact hK _ _ (h v' w' h2 h3)
end Go.Proofs.Ytbgjahgmkbbgjaa

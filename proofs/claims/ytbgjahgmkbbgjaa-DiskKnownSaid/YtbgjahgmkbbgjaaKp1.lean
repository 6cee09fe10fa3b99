/- Plain facts on two disks of a law. -/
import Derived.Test.YtbgjahgmkbbgjaaDf
namespace Go.Proofs.Ytbgjahgmkbbgjaa
open Go.RowKit

/-- Of two disks no block is both's. -/
def Apart (r1 r2 : Nat → Nat) : Prop := ∀ k, r1 k ≠ 0 → r2 k = 0
theorem Apart.symm {r1 r2 : Nat → Nat} (h : Apart r1 r2) : Apart r2 r1 := fun k h2 => by
  rcases Nat.eq_zero_or_pos (r1 k) with e | e
  · exact e
  · exact absurd (h k (by omega)) h2
theorem Apart.not {r1 r2 : Nat → Nat} (h : Apart r1 r2) : ∀ k, r2 k ≠ 0 → ¬ r1 k ≠ 0 := fun k h2 h1 => h2 (h k h1)

/-- Behind a step of the first. -/
theorem Apart.step {w : World} {r1 r1' r2 : Nat → Nat} (h : Apart r1 r2) (hr : ∀ k, r1' k ≠ 0 → r1 k ≠ 0 ∨ w.heap.size ≤ k) (hlt : ∀ k, r2 k ≠ 0 → k < w.heap.size) : Apart r1' r2 := fun k hk => by
  rcases Nat.eq_zero_or_pos (r2 k) with e | e
  · exact e
  · rcases hr k hk with h1 | h1
    · exact h k h1
    · have := hlt k (by omega); omega

theorem wrote_now {N : Nat} {D S : DS} (h : D.now = S.now) (a : Int) (d : List Nat) : (wrote N D a d).now = (wrote N S a d).now := by
  unfold wrote
  split
  · simp [h]
  · exact h
theorem wrote_uns (N : Nat) (D : DS) (a : Int) (d : List Nat) : (wrote N D a d).uns.length ≤ D.uns.length + 1 := by
  unfold wrote
  split
  · simp
  · omega
theorem wrote_all {N : Nat} {S : DS} {x : List Nat} (hx : x.length = N) (hS : S.now.length = N) : (wrote N S 0 x).now = x := by
  unfold wrote
  by_cases h0 : 0 < x.length
  · rw [if_pos ⟨by simp [liesB]; omega, h0⟩]
    show laid S.now 0 x = x
    simp [laid]
    omega
  · rw [if_neg (fun h => h0 h.2)]
    have h1 : x = [] := List.eq_nil_of_length_eq_zero (by omega)
    have h2 : S.now = [] := List.eq_nil_of_length_eq_zero (by omega)
    rw [h1, h2]
theorem all_of {N : Nat} {x : List Nat} (h : x.length = N) : (x.drop 0).take N = x := by rw [List.drop_zero, List.take_of_length_le (by omega)]

/-- At the head of a round of the calls. -/
def KRel (W : World) (p q n len : Nat) (i : Value) (wr : World) : Prop :=
  ∃ (k : Nat) (r1 r2 : Nat → Nat) (D S : DS), i = .int .i64 k ∧ k ≤ len ∧ Mine W wr p r1 n D ∧ Mine W wr q r2 n S ∧ Apart r1 r2 ∧ D.now = S.now ∧ D.uns.length ≤ k ∧ S.uns.length = 0

/-- What was handed in lies in none of a disk's blocks. -/
theorem Mine.old {W w : World} {p : Nat} {r : Nat → Nat} {N : Nat} {D : DS} (h : Mine W w p r N D) {k : Nat} (hk : k < W.heap.size) : r k = 0 := by
  rcases Nat.eq_zero_or_pos (r k) with e | e
  · exact e
  · have := h.new k (by omega); omega
theorem Mine.free {W w : World} {p : Nat} {r : Nat → Nat} {N : Nat} {D : DS} (h : Mine W w p r N D) {k : Nat} (hk : w.heap.size ≤ k) : r k = 0 := by
  rcases Nat.eq_zero_or_pos (r k) with e | e
  · exact e
  · have := h.d.lt k (by omega); omega

theorem holds_only {w w' : World} {v : Value} {zs : List Nat} {S : Nat → Prop} (h : Holds8 w v zs) (hO : Only S w w') (hS : 0 < zs.length → ∀ k, v.ownBlock = some k → ¬ S k) : Holds8 w' v zs := by
  by_cases h0 : 0 < zs.length
  · exact h.keep hO.size (fun k hk => hO.block k (h.lt h0 k hk) (hS h0 k hk))
  · obtain ⟨ao, cap, e, h1, h2, _, _⟩ := h
    exact ⟨ao, cap, e, h1, h2, fun h => absurd h h0, fun h => absurd h h0⟩

/-- The fates that keep all. -/
def keeps (n : Nat) : List (Int × Int) := (List.range n).map fun (i : Nat) => ((1 : Int), (i : Int))
theorem am_keeps {n k : Nat} (h : k < n) (d : List Nat) : am (keeps n) k d = d.length := by
  simp [am, keeps, h, amount]
theorem crashed_keeps {N : Nat} {D : DS} (h : Wf N D) : crashed D (keeps D.uns.length) = D.now := by
  unfold crashed
  rw [cr_all _ _ _ _ (fun k d _ hk => by rw [am_keeps (by omega)]; exact Nat.le_refl _), h.now]
theorem crashed_none (D : DS) : crashed D [] = D.dur := cr_none _ _ _ _ am_nil

/-- The cells of the fates that keep all. -/
def keepCells (n : Nat) : List Value := (List.range n).flatMap fun (i : Nat) => [.int .i64 1, .int .i64 (i : Int)]
theorem keepCells_succ (n : Nat) : keepCells (n + 1) = keepCells n ++ [.int .i64 1, .int .i64 (n : Int)] := by
  simp [keepCells, List.range_succ]
theorem keepCells_len (n : Nat) : (keepCells n).length = n * 2 := by
  induction n with
  | zero => rfl
  | succ n ih => rw [keepCells_succ]; simp [ih]; omega
theorem keepCells_at (n : Nat) : ∀ j, j < n → (keepCells n)[j * 2]? = some (.int .i64 1) ∧ (keepCells n)[j * 2 + 1]? = some (.int .i64 (j : Int)) := by
  induction n with
  | zero => intro j h; omega
  | succ n ih =>
    intro j h
    have hl := keepCells_len n
    rw [keepCells_succ]
    by_cases hj : j < n
    · rw [List.getElem?_append_left (by omega), List.getElem?_append_left (by omega)]
      exact ih j hj
    · have : j = n := by omega
      subst this
      rw [List.getElem?_append_right (by omega), List.getElem?_append_right (by omega), hl]
      simp

theorem own_fates {w : World} {v : Value} {n : Nat} (h : w.ownsRow 0 44 2 v n (keepCells n)) : Fates w v (keeps n) := by
  have hl : (keeps n).length = n := by simp [keeps]
  rcases Nat.eq_zero_or_pos n with h0 | h0
  · subst h0
    obtain ⟨a, c, e⟩ := own_shape h
    exact ⟨a, c, by rw [e]; rfl, fun h => absurd h (by simp [keeps])⟩
  · obtain ⟨g, cap, hv, hg, hc⟩ := row_at h 0 h0
    refine ⟨_, cap, by rw [hl]; exact hv, fun _ => ⟨g, 0, rfl, hg, fun j k a hj => ?_⟩⟩
    have hjn : j < n := by have := (List.getElem?_eq_some_iff.1 hj).1; omega
    simp [keeps, hjn] at hj
    obtain ⟨rfl, rfl⟩ := hj
    obtain ⟨e0, e1⟩ := keepCells_at n j hjn
    rw [Nat.zero_add]
    exact ⟨(hc _ (by omega)).trans e0, (hc _ (by omega)).trans e1⟩

theorem info_fate : (Try.prog.info? 44).map (fun i => (i.zero, i.size, i.bytes)) = some (some (.agg #[.int .i64 0, .int .i64 0]), 2, 16) := by kernel_rfl

/-- At the head of a round of those that lay the fates. -/
def KFates (w6 : World) (len : Nat) (v i : Value) (wr : World) : Prop :=
  ∃ k : Nat, i = .int .i64 k ∧ k ≤ len ∧ wr.ownsRow 0 44 2 v k (keepCells k) ∧ (∀ j, v.ownBlock = some j → w6.heap.size ≤ j) ∧ Below w6.heap.size w6 wr

/-- At the head of a round over the bytes. -/
def KByte (w12 : World) (n : Nat) (i : Value) (wr : World) : Prop := ∃ k : Nat, i = .int .i64 k ∧ k ≤ n ∧ Below w12.heap.size w12 wr

/-- Is a byte behind the crash one that may be there? the first so many writes. -/
def mayB (c b : List Nat) (l : List (Nat × List Nat)) (k q : Nat) : Prop := c[k]? = b[k]? ∨ ∃ x ∈ l.take q, x.1 ≤ k ∧ k < x.1 + x.2.length ∧ x.2[k - x.1]? = c[k]?
/-- So far. -/
def KMay (w12 : World) (c b : List Nat) (l : List (Nat × List Nat)) (k q : Nat) (v : Value) (w' : World) : Prop := ∃ B : Bool, v = .bool B ∧ (B = true ↔ mayB c b l k q) ∧ Below w12.heap.size w12 w'
/-- At the head of a round over the writes. -/
def KWr (w12 : World) (c b : List Nat) (l : List (Nat × List Nat)) (k : Nat) (v i : Value) (wr : World) : Prop := ∃ q : Nat, i = .int .i64 q ∧ q ≤ l.length ∧ KMay w12 c b l k q v wr

theorem NewW.at {base : Nat} {w : World} {F : Nat → Prop} {v : Value} {xs : List Value} {l : List (Nat × List Nat)} (h : NewW base w F v xs l) (k : Nat) (hk : k < l.length) :
    ∃ g cap a d y, v = .slice (some ⟨g, 0, none⟩) l.length cap ∧ g < w.heap.size ∧ l[k]? = some (a, d) ∧ w.cell? ⟨g, k * 2, none⟩ = some (.int .i64 (a : Nat)) ∧ w.cell? ⟨g, k * 2 + 1, none⟩ = some y ∧ Own8 w 0 y d := by
  obtain ⟨g, cap, hv, hg, hc⟩ := row_at h.row k hk
  obtain ⟨a, d, y, e1, e2, e3, e4, _⟩ := h.wcs.get k hk
  have hxl := h.wcs.len
  exact ⟨g, cap, a, d, y, hv, hg, e1, (hc _ (by omega)).trans e2, (hc _ (by omega)).trans e3, e4⟩

theorem mayB_all {N : Nat} {D : DS} (h : Wf N D) (fs : List (Int × Int)) (k : Nat) : mayB (crashed D fs) D.dur D.uns k D.uns.length := by
  have := cr_may (am fs) k D.dur D.uns D.uns D.dur 0 (by rw [h.dur]; exact h.lie) (fun _ h => h) (.inl rfl)
  rcases this with e | e
  · exact .inl e
  · exact .inr (by rw [List.take_of_length_le (Nat.le_refl _)]; exact e)
theorem mayB_succ {c b : List Nat} {l : List (Nat × List Nat)} {k q a : Nat} {d : List Nat} (h : l[q]? = some (a, d)) : mayB c b l k (q + 1) ↔ mayB c b l k q ∨ (a ≤ k ∧ k < a + d.length ∧ d[k - a]? = c[k]?) := by
  unfold mayB
  rw [List.take_add_one, h]
  constructor
  · rintro (e | ⟨x, hx, e⟩)
    · exact .inl (.inl e)
    · rcases List.mem_append.1 hx with hx | hx
      · exact .inl (.inr ⟨x, hx, e⟩)
      · simp at hx
        subst hx
        exact .inr e
  · rintro ((e | ⟨x, hx, e⟩) | e)
    · exact .inl e
    · exact .inr ⟨x, List.mem_append.2 (.inl hx), e⟩
    · exact .inr ⟨(a, d), List.mem_append.2 (.inr (by simp)), e⟩
theorem mayB_zero {c b : List Nat} {l : List (Nat × List Nat)} {k : Nat} : mayB c b l k 0 ↔ c[k]? = b[k]? := by simp [mayB]
end Go.Proofs.Ytbgjahgmkbbgjaa

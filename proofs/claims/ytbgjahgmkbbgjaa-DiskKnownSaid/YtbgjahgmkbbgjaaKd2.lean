/- DiskKnown: acts that a call makes, as a law's acts. -/
import Derived.Test.YtbgjahgmkbbgjaaKd1
import Derived.Test.YtbgjahgmkbbgjaaDr9
namespace Go.Proofs.Ytbgjahgmkbbgjaa
open Go.RowKit

/-- Acts as cells. -/
def aCells : List Act1 → List Value
  | [] => []
  | A :: l => .int .i64 A.kind :: .int .i64 A.at_ :: A.dv :: A.fv :: aCells l
theorem aCells_len (l : List Act1) : (aCells l).length = l.length * 4 := by
  induction l with
  | nil => rfl
  | cons x L ih => simp only [aCells, List.length_cons, ih]; omega
theorem aCells_snoc (l : List Act1) (A : Act1) : aCells l ++ [.int .i64 A.kind, .int .i64 A.at_, A.dv, A.fv] = aCells (l ++ [A]) := by
  induction l with
  | nil => rfl
  | cons y L ih => simp only [aCells, List.cons_append, ih]
theorem aCells_get : ∀ (l : List Act1) (i : Nat) (A : Act1), l[i]? = some A →
    (aCells l)[i * 4]? = some (.int .i64 A.kind) ∧ (aCells l)[i * 4 + 1]? = some (.int .i64 A.at_) ∧ (aCells l)[i * 4 + 2]? = some A.dv ∧ (aCells l)[i * 4 + 3]? = some A.fv
  | [], i, x, h => by simp at h
  | y :: L, 0, x, h => by
    simp at h
    subst h
    exact ⟨rfl, rfl, rfl, rfl⟩
  | y :: L, i + 1, x, h => by
    have ih := aCells_get L i x (by simpa using h)
    rw [show (i + 1) * 4 = i * 4 + 4 by omega]
    exact ih

theorem four_new (w : World) (x y z u : Value) (e : TypeId) : ∀ j t, [x, y, z, u][j]? = some t → (w.alloc (.cells #[x, y, z, u] e)).cell? ((⟨w.heap.size, 0, none⟩ : Addr).add j) = some t := by
  intro j t h
  have hj : j < 4 := (List.getElem?_eq_some_iff.1 h).1
  rw [Addr.add_lit, Nat.zero_add]
  refine (cell_of_block (alloc_block_new w _) j).trans ?_
  rcases (show j = 0 ∨ j = 1 ∨ j = 2 ∨ j = 3 by omega) with rfl | rfl | rfl | rfl <;> simpa using h

/-- The first bytes of a block. -/
theorem holds_pre {w : World} {g : Nat} {zs : List Nat} {C : Array Value} (hC : C.toList = u8s zs) (hg : w.heap[g]? = some (.cells C 5 (0, 0))) (m c : Nat) (hm : m ≤ zs.length) (hc : m ≤ c) : Holds8 w (.slice (some ⟨g, 0, none⟩) m c) (zs.take m) := by
  have hl : (zs.take m).length = m := by rw [List.length_take]; omega
  refine ⟨some ⟨g, 0, none⟩, c, by rw [hl], by omega, by simp, fun _ x hx => by injection hx with hx; subst hx; exact lt_of_obj hg, fun h0 => ⟨g, 0, rfl, fun j hj => ?_⟩⟩
  rw [hl] at hj
  have e := u8s_get zs j (by omega)
  rw [← hC] at e
  rw [Nat.zero_add, cell_of_block hg]
  have : (zs.take m).getD j 0 = zs.getD j 0 := by
    simp [List.getD, List.getElem?_take, hj]
  rw [this, ← e]
  simp

/-- What is right of one act, beside the row of fates and how many of it are laid. -/
structure AOk (w : World) (fv : Value) (n : Nat) (A : Act1) : Prop where
  d : Holds8 w A.dv A.ds
  t : ∀ k, A.dv.ownBlock = some k → ∃ c, w.heap[k]? = some (.cells c 5 (0, 0))
  f : Fates w A.fv A.fs
  ft : ∀ k, A.fv.ownBlock = some k → ∃ c, w.heap[k]? = some (.cells c 44 (0, 0))
  fo : ∀ g o m c, A.fv = .slice (some ⟨g, o, none⟩) m c → fv.ownBlock = some g → o + m * 2 ≤ n * 2

theorem AOk.only {w w' : World} {fv : Value} {n : Nat} {A : Act1} (h : AOk w fv n A) {S : Nat → Prop} (hO : Only S w w') (h1 : ∀ k, A.dv.ownBlock = some k → ¬ S k) (h2 : ∀ k, A.fv.ownBlock = some k → ¬ S k) : AOk w' fv n A :=
  ⟨h.d.keep hO.size (fun k hk => let ⟨_, hc⟩ := h.t k hk; hO.block k (lt_of_obj hc) (h1 k hk)), fun k hk => let ⟨c, hc⟩ := h.t k hk; ⟨c, hO.keep hc (h1 k hk)⟩,
   h.f.keep hO.size (fun k hk => let ⟨_, hc⟩ := h.ft k hk; hO.block k (lt_of_obj hc) (h2 k hk)), fun k hk => let ⟨c, hc⟩ := h.ft k hk; ⟨c, hO.keep hc (h2 k hk)⟩, h.fo⟩

/-- A fate more in the row. -/
theorem AOk.fate {w w' : World} {fv fv' : Value} {n : Nat} {A : Act1} (h : AOk w fv n A) (hF : ∀ k, fv.ownBlock = some k → ∃ c, w.heap[k]? = some (.cells c 44 (0, 0))) (hK : FKeep w w' fv fv' n) : AOk w' fv' (n + 1) A := by
  have hd : ∀ k, A.dv.ownBlock = some k → ¬ fv.ownBlock = some k := fun k hk e => by
    obtain ⟨c, hc⟩ := h.t k hk
    obtain ⟨c', hc'⟩ := hF k e
    exact blk_ne hc hc' (by decide) rfl
  refine ⟨h.d.keep hK.o.size (fun k hk => let ⟨_, hc⟩ := h.t k hk; hK.o.block k (lt_of_obj hc) (hd k hk)), fun k hk => let ⟨c, hc⟩ := h.t k hk; ⟨c, hK.o.keep hc (hd k hk)⟩, ?_, fun k hk => ?_, fun g o m c he hb => ?_⟩
  · obtain ⟨ao, cap, e, hx⟩ := h.f
    refine ⟨ao, cap, e, fun h0 => ?_⟩
    obtain ⟨b, o, eb, hb, hc⟩ := hx h0
    refine ⟨b, o, eb, Nat.lt_of_lt_of_le hb hK.o.size, fun j k a hj => ?_⟩
    obtain ⟨c0, c1⟩ := hc j k a hj
    have hjl := (List.getElem?_eq_some_iff.1 hj).1
    by_cases hf : fv.ownBlock = some b
    · have := h.fo b o A.fs.length cap (by rw [e, eb]) hf
      exact ⟨(hK.old b hf _ (by omega)).trans c0, (hK.old b hf _ (by omega)).trans c1⟩
    · exact ⟨(World.cell?_of_block (hK.o.block b hb hf)).trans c0, (World.cell?_of_block (hK.o.block b hb hf)).trans c1⟩
  · by_cases hf : fv.ownBlock = some k
    · exact hK.ty k hf
    · obtain ⟨c, hc⟩ := h.ft k hk
      exact ⟨c, hK.o.keep hc hf⟩
  · rcases hK.nw g hb with h1 | h1
    · have := h.fo g o m c he h1
      omega
    · obtain ⟨c', hc'⟩ := h.ft g (by rw [he]; rfl)
      have := lt_of_obj hc'
      omega

/-- A row of acts of the call's own. -/
structure ARow (W w : World) (v fv : Value) (n : Nat) (l : List Act1) : Prop where
  bel : Below W.heap.size W w
  row : w.ownsRow W.heap.size 33 4 v l.length (aCells l)
  ok : ∀ A ∈ l, AOk w fv n A

theorem ARow.below {W w w' : World} {v fv : Value} {n : Nat} {l : List Act1} (h : ARow W w v fv n l) (hB : Below w.heap.size w w') : ARow W w' v fv n l :=
  have hO := Below.only hB (fun _ => False)
  ⟨h.bel.trans (hB.mono h.bel.size), own_only h.row hO (fun _ _ h => h), fun A hA => (h.ok A hA).only hO (fun _ _ h => h) (fun _ _ h => h)⟩

theorem ARow.fate {W w w' : World} {v fv fv' : Value} {n : Nat} {l : List Act1} (h : ARow W w v fv n l) (hF : ∀ k, fv.ownBlock = some k → W.heap.size ≤ k ∧ k < w.heap.size ∧ ∃ c, w.heap[k]? = some (.cells c 44 (0, 0))) (hK : FKeep w w' fv fv' n) : ARow W w' v fv' (n + 1) l := by
  refine ⟨h.bel.trans (hK.o.below h.bel.size (fun k hk e => by have := (hF k e).1; omega)), own_only h.row hK.o (fun k hk e => ?_), fun A hA => (h.ok A hA).fate (fun k hk => (hF k hk).2.2) hK⟩
  obtain ⟨c, hc⟩ := row_type h.row k hk
  obtain ⟨_, _, c', hc'⟩ := hF k e
  exact blk_ne hc hc' (by decide) rfl

theorem ARow.snoc {W w w' : World} {v v' fv : Value} {n : Nat} {l : List Act1} {A : Act1} (h : ARow W w v fv n l) (hA : AOk w fv n A) (hr : w'.ownsRow W.heap.size 33 4 v' (l.length + 1) (aCells l ++ [.int .i64 A.kind, .int .i64 A.at_, A.dv, A.fv])) (hg : w.grownBy w' v.ownBlock) : ARow W w' v' fv n (l ++ [A]) := by
  have hO : Only (fun k => v.ownBlock = some k) w w' := (Only.refl _ _).grown hg (fun k hk _ => hk)
  have hd : ∀ B, AOk w fv n B → (∀ k, B.dv.ownBlock = some k → ¬ v.ownBlock = some k) ∧ ∀ k, B.fv.ownBlock = some k → ¬ v.ownBlock = some k := fun B hB => ⟨fun k hk e => by
    obtain ⟨c, hc⟩ := row_type h.row k e
    obtain ⟨c', hc'⟩ := hB.t k hk
    exact blk_ne hc hc' (by decide) rfl, fun k hk e => by
    obtain ⟨c, hc⟩ := row_type h.row k e
    obtain ⟨c', hc'⟩ := hB.ft k hk
    exact blk_ne hc hc' (by decide) rfl⟩
  rw [aCells_snoc] at hr
  refine ⟨h.bel.trans (hO.below h.bel.size (fun k hk e => by have := own_ge h.row k e; omega)), by simpa using hr, fun B hB => ?_⟩
  rcases List.mem_append.1 hB with hB | hB
  · exact (h.ok B hB).only hO (hd B (h.ok B hB)).1 (hd B (h.ok B hB)).2
  · simp at hB
    subst hB
    exact hA.only hO (hd _ hA).1 (hd _ hA).2
/-- The row of fates beside it stays. -/
theorem FRow.snoc {W w w' : World} {v fv : Value} {B m : Nat} {fs : List (Int × Int)} {xs : List Value} (h : FRow w B fv fs) (hr : w.ownsRow W.heap.size 33 4 v m xs) (hg : w.grownBy w' v.ownBlock) : FRow w' B fv fs :=
  h.only (S := fun k => v.ownBlock = some k) ((Only.refl _ _).grown hg (fun k hk _ => hk)) (fun k hk e => by
    obtain ⟨c, hc⟩ := row_type hr k e
    obtain ⟨_, _, c', hc'⟩ := h.ty k hk
    exact blk_ne hc hc' (by decide) rfl)

/-- Such a row serves as the acts of a law. -/
theorem ARow.acts {W w : World} {v fv : Value} {n : Nat} {l : List Act1} (h : ARow W w v fv n l) : IsActs w v l := by
  rcases Nat.eq_zero_or_pos l.length with h0 | h0
  · obtain ⟨a, cap, hv⟩ := own_shape h.row
    exact ⟨a, cap, hv, fun hp => absurd hp (by omega)⟩
  · rcases h.row.2 with ⟨_, hn⟩ | ⟨g, cap, cur, hv, hg, hh, hnc, hcm, hcs, hx⟩
    · omega
    · refine ⟨_, cap, hv, fun _ => ⟨g, 0, rfl, lt_of_obj hh, fun i A hi => ?_⟩⟩
      have hil := (List.getElem?_eq_some_iff.1 hi).1
      obtain ⟨k0, k1, k2, k3⟩ := aCells_get l i A hi
      rw [← hx] at k0 k1 k2 k3
      rw [List.getElem?_take_of_lt (by omega)] at k0 k1 k2 k3
      have ok := h.ok A (List.mem_of_getElem? hi)
      rw [Nat.zero_add]
      exact ⟨(cell_of_block hh _).trans (by simpa using k0), (cell_of_block hh _).trans (by simpa using k1), (cell_of_block hh _).trans (by simpa using k2), (cell_of_block hh _).trans (by simpa using k3), ok.d, ok.f⟩

/-- The acts at the bounds. -/
def bigL (g : Nat) : List Act1 := [⟨0, 4611686018427387904, .slice (some ⟨g, 0, none⟩) 1 1, [1], .slice none 0 0, []⟩, ⟨0, 9, .slice none 0 0, [], .slice none 0 0, []⟩, ⟨0, 10, .slice none 0 0, [], .slice none 0 0, []⟩, ⟨0, -1, .slice none 0 0, [], .slice none 0 0, []⟩]
theorem big_acts {w : World} {g b : Nat} (h1 : w.heap[g]? = some (.cells #[.int .u8 1] 5 (0, 0))) (hb : w.heap[b]? = some (.cells #[.int .i64 0, .int .i64 4611686018427387904, .slice (some ⟨g, 0, none⟩) 1 1, .slice none 0 0, .int .i64 0, .int .i64 9, .slice none 0 0, .slice none 0 0, .int .i64 0, .int .i64 10, .slice none 0 0, .slice none 0 0, .int .i64 0, .int .i64 (-1), .slice none 0 0, .slice none 0 0] 33 (0, 0))) :
    IsActs w (.slice (some ⟨b, 0, none⟩) 4 4) (bigL g) := by
  refine ⟨_, 4, rfl, fun _ => ⟨b, 0, rfl, lt_of_obj hb, fun i A hi => ?_⟩⟩
  have hil : i < 4 := (List.getElem?_eq_some_iff.1 hi).1
  rcases (show i = 0 ∨ i = 1 ∨ i = 2 ∨ i = 3 by omega) with rfl | rfl | rfl | rfl
  · injection hi with hi
    subst hi
    exact ⟨cell_of_block hb _, cell_of_block hb _, cell_of_block hb _, cell_of_block hb _, holds_pre (zs := [1]) (by simp [u8s]) h1 1 1 (Nat.le_refl _) (Nat.le_refl _), fates_nil _⟩
  all_goals
    injection hi with hi
    subst hi
    exact ⟨cell_of_block hb _, cell_of_block hb _, cell_of_block hb _, cell_of_block hb _, holds_none _, fates_nil _⟩
/-- Ahead of each round of the making. -/
def MkRel (W : World) (v4 v5 v2 v3 : Value) (w : World) : Prop :=
  ∃ (l : List Act1) (fs : List (Int × Int)) (k n : Nat), v4 = .int .i64 k ∧ v5 = .int .i64 n ∧ l.length = n ∧ fs.length = n ∧ n ≤ 24 ∧ k ≤ 100002 ∧ FRow w W.heap.size v3 fs ∧ ARow W w v2 v3 n l
/-- Behind the appending of an act. -/
def CutRel (W : World) (fv : Value) (n : Nat) (fs : List (Int × Int)) (v : Value) (w : World) : Prop :=
  ∃ l, l.length = n ∧ FRow w W.heap.size fv fs ∧ ARow W w v fv n l
/-- Ahead of each round. -/
def OutRel (W : World) (v : Value) (w : World) : Prop := ∃ i : Nat, v = .int .i64 i ∧ i ≤ 40 ∧ Below W.heap.size W w
theorem FRow.some {w : World} {B : Nat} {v : Value} {fs : List (Int × Int)} (h : FRow w B v fs) (n : Nat) (hn : fs.length = n) (h0 : 0 < n) : ∃ g c, v = .slice (some ⟨g, 0, none⟩) n c ∧ n ≤ c := by
  rcases h with ⟨_, rfl⟩ | ⟨g, c, cur, hv, hg, hh, hc, _⟩
  · simp at hn; omega
  · exact ⟨g, c, by rw [← hn]; exact hv, by omega⟩
theorem cut_of {W w1 w' : World} {v v' : Value} {g n c m2 m5 b0 b1 b3 : Nat} {l : List Act1} {fs : List (Int × Int)} {kd pl : Int} (hF : FRow w1 W.heap.size (.slice (some ⟨g, 0, none⟩) (n + 1) c) fs) (hfl : fs.length = n + 1) (hA : ARow W w1 v (.slice (some ⟨g, 0, none⟩) (n + 1) c) (n + 1) l) (hl : l.length = n) (hm5 : m5 ≤ 4) (hm2 : m2 ≤ n)
    (ho : w'.ownsRow 0 33 4 v' (l.length + 1) (aCells l ++ [.int .i64 kd, .int .i64 pl, .slice (some ⟨w1.heap.size, 0, none⟩) m5 4, .slice (some ⟨g, m2 * 2, none⟩) (n + 1 - m2) (c - m2)]))
    (hg : ((w1.alloc (.cells #[.int .u8 b0, .int .u8 b1, .int .u8 3, .int .u8 b3] 5)).alloc (.cells #[.int .i64 kd, .int .i64 pl, .slice (some ⟨w1.heap.size, 0, none⟩) m5 4, .slice (some ⟨g, m2 * 2, none⟩) (n + 1 - m2) (c - m2)] 33)).drew.grownBy w' v.ownBlock)
    (hb : v'.ownBlock = v.ownBlock ∨ v'.ownBlock = some ((w1.alloc (.cells #[.int .u8 b0, .int .u8 b1, .int .u8 3, .int .u8 b3] 5)).alloc (.cells #[.int .i64 kd, .int .i64 pl, .slice (some ⟨w1.heap.size, 0, none⟩) m5 4, .slice (some ⟨g, m2 * 2, none⟩) (n + 1 - m2) (c - m2)] 33)).drew.heap.size) :
    CutRel W (.slice (some ⟨g, 0, none⟩) (n + 1) c) (n + 1) fs v' w' := by
  have hB : Below w1.heap.size w1 ((w1.alloc (.cells #[.int .u8 b0, .int .u8 b1, .int .u8 3, .int .u8 b3] 5)).alloc (.cells #[.int .i64 kd, .int .i64 pl, .slice (some ⟨w1.heap.size, 0, none⟩) m5 4, .slice (some ⟨g, m2 * 2, none⟩) (n + 1 - m2) (c - m2)] 33)).drew := (((Below.refl _ _).alloc (Nat.le_refl _) _).alloc (by simp) _).drew
  have hz : ((w1.alloc (.cells #[.int .u8 b0, .int .u8 b1, .int .u8 3, .int .u8 b3] 5)).alloc (.cells #[.int .i64 kd, .int .i64 pl, .slice (some ⟨w1.heap.size, 0, none⟩) m5 4, .slice (some ⟨g, m2 * 2, none⟩) (n + 1 - m2) (c - m2)] 33)).drew.heap[w1.heap.size]? = some (.cells #[.int .u8 b0, .int .u8 b1, .int .u8 3, .int .u8 b3] 5 (0, 0)) :=
    (alloc_block_old _ (by simp)).trans (alloc_block_new w1 _)
  have hW := hA.bel.size
  generalize ((w1.alloc (.cells #[.int .u8 b0, .int .u8 b1, .int .u8 3, .int .u8 b3] 5)).alloc (.cells #[.int .i64 kd, .int .i64 pl, .slice (some ⟨w1.heap.size, 0, none⟩) m5 4, .slice (some ⟨g, m2 * 2, none⟩) (n + 1 - m2) (c - m2)] 33)).drew = w2 at *
  have hA2 := hA.below hB
  have hF2 := hF.below hB
  have hr := own_raise (base' := W.heap.size) ho (fun j hj => by
    rcases hb with e | e
    · exact own_ge hA.row j (by rw [← e]; exact hj)
    · rw [hj] at e
      injection e with e
      have := hB.size
      omega)
  have hF3 := hF2
  rw [← hfl] at hF3
  have hp := hF3.part m2 (c - m2) (by omega)
  rw [hfl] at hp
  have hN : AOk w2 (.slice (some ⟨g, 0, none⟩) (n + 1) c) (n + 1) ⟨kd, pl, .slice (some ⟨w1.heap.size, 0, none⟩) m5 4, ([b0, b1, 3, b3] : List Nat).take m5, .slice (some ⟨g, m2 * 2, none⟩) (n + 1 - m2) (c - m2), fs.drop m2⟩ :=
    ⟨holds_pre (zs := [b0, b1, 3, b3]) (by simp [u8s]) hz _ 4 hm5 hm5, fun j hj => by
      obtain rfl : w1.heap.size = j := by injection hj
      exact ⟨_, hz⟩, hp, fun j hj => (hF2.ty j hj).2.2, fun g' o m cc he _ => by
      injection he with e1 e2 _
      injection e1 with e1
      injection e1 with _ e3 _
      omega⟩
  exact ⟨_, by simp [hl], hF2.snoc hA2.row hg, hA2.snoc hN hr hg⟩
theorem no_acts (w : World) : IsActs w (.slice none 0 0) [] := ⟨none, 0, rfl, fun h => absurd h (by simp)⟩

theorem info_act : (Try.prog.info? 33).map (fun i => (i.zero, i.size, i.bytes)) = some (some (.agg #[.int .i64 0, .int .i64 0, .slice none 0 0, .slice none 0 0]), 4, 64) := by kernel_rfl
end Go.Proofs.Ytbgjahgmkbbgjaa

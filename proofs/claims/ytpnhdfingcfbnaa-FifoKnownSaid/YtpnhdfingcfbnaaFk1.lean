/- FifoKnown: acts that a call makes, as a law's acts. -/
import Derived.Test.YtpnhdfingcfbnaaFr7
import Derived.Test.YtpnhdfingcfbnaaFn
import Derived.Test.YtpnhdfingcfbnaaFo4
namespace Go.Proofs.Ytpnhdfingcfbnaa
open Go.RowKit

/-- Acts as cells. -/
def aCells : List Act1 → List Value
  | [] => []
  | A :: l => .int .i64 A.kind :: .int .u64 A.no :: .int .i64 A.size :: A.dv :: aCells l
theorem aCells_len (l : List Act1) : (aCells l).length = l.length * 4 := by
  induction l with
  | nil => rfl
  | cons x L ih => simp only [aCells, List.length_cons, ih]; omega
theorem aCells_snoc (l : List Act1) (A : Act1) : aCells l ++ [.int .i64 A.kind, .int .u64 A.no, .int .i64 A.size, A.dv] = aCells (l ++ [A]) := by
  induction l with
  | nil => rfl
  | cons y L ih => simp only [aCells, List.cons_append, ih]
theorem aCells_get : ∀ (l : List Act1) (i : Nat) (A : Act1), l[i]? = some A →
    (aCells l)[i * 4]? = some (.int .i64 A.kind) ∧ (aCells l)[i * 4 + 1]? = some (.int .u64 A.no) ∧ (aCells l)[i * 4 + 2]? = some (.int .i64 A.size) ∧ (aCells l)[i * 4 + 3]? = some A.dv
  | [], i, x, h => by simp at h
  | y :: L, 0, x, h => by
    simp at h
    subst h
    exact ⟨rfl, rfl, rfl, rfl⟩
  | y :: L, i + 1, x, h => by
    have ih := aCells_get L i x (by simpa using h)
    rw [show (i + 1) * 4 = i * 4 + 4 by omega]
    exact ih

theorem four_new (w : World) (x y z u : Value) (e : TypeId) : ∀ j t, [x, y, z, u][j]? = some t → (w.alloc (.cells #[x, y, z, u] e)).cell? ((⟨w.heap.size, 0, none⟩ : Addr).add j) = some t := by
  intro j t h
  have hj : j < 4 := (List.getElem?_eq_some_iff.1 h).1
  rw [Addr.add_lit, Nat.zero_add]
  refine (cell_of_block (alloc_block_new w _) j).trans ?_
  rcases (show j = 0 ∨ j = 1 ∨ j = 2 ∨ j = 3 by omega) with rfl | rfl | rfl | rfl <;> simpa using h

/-- What is right of one act. -/
structure AOk (w : World) (A : Act1) : Prop where
  d : Holds8 w A.dv A.ds
  t : ∀ k, A.dv.ownBlock = some k → ∃ c, w.heap[k]? = some (.cells c 5 (0, 0))
  wno : 0 ≤ A.no ∧ A.no ≤ 18446744073709551615
  wsz : -9223372036854775808 ≤ A.size ∧ A.size ≤ 9223372036854775807

theorem AOk.only {w w' : World} {A : Act1} (h : AOk w A) {S : Nat → Prop} (hO : Only S w w') (hS : ∀ k, A.dv.ownBlock = some k → ¬ S k) : AOk w' A :=
  ⟨h.d.keep hO.size (fun k hk => let ⟨_, hc⟩ := h.t k hk; hO.block k (lt_of_obj hc) (hS k hk)), fun k hk => let ⟨c, hc⟩ := h.t k hk; ⟨c, hO.keep hc (hS k hk)⟩, h.wno, h.wsz⟩

/-- A row of acts of the call's own. -/
structure ARow (W w : World) (v : Value) (l : List Act1) : Prop where
  bel : Below W.heap.size W w
  row : w.ownsRow W.heap.size 39 4 v l.length (aCells l)
  ok : ∀ A ∈ l, AOk w A

theorem ARow.below {W w w' : World} {v : Value} {l : List Act1} (h : ARow W w v l) (hB : Below w.heap.size w w') : ARow W w' v l :=
  have hO := Below.only hB (fun _ => False)
  ⟨h.bel.trans (hB.mono h.bel.size), own_only h.row hO (fun _ _ h => h), fun A hA => (h.ok A hA).only hO (fun _ _ h => h)⟩

theorem ARow.snoc {W w w' : World} {v v' : Value} {l : List Act1} {A : Act1} (h : ARow W w v l) (hA : AOk w A) (hr : w'.ownsRow W.heap.size 39 4 v' (l.length + 1) (aCells l ++ [.int .i64 A.kind, .int .u64 A.no, .int .i64 A.size, A.dv])) (hg : w.grownBy w' v.ownBlock) : ARow W w' v' (l ++ [A]) := by
  have hO : Only (fun k => v.ownBlock = some k) w w' := (Only.refl _ _).grown hg (fun k hk _ => hk)
  have hd : ∀ B, AOk w B → ∀ k, B.dv.ownBlock = some k → ¬ v.ownBlock = some k := fun B hB k hk e => by
    obtain ⟨c, hc⟩ := row_type h.row k e
    obtain ⟨c', hc'⟩ := hB.t k hk
    exact blk_ne hc hc' (by decide) rfl
  rw [aCells_snoc] at hr
  refine ⟨h.bel.trans (hO.below h.bel.size (fun k hk e => by have := own_ge h.row k e; omega)), by simpa using hr, fun B hB => ?_⟩
  rcases List.mem_append.1 hB with hB | hB
  · exact (h.ok B hB).only hO (hd B (h.ok B hB))
  · simp at hB
    subst hB
    exact hA.only hO (hd _ hA)

/-- Such a row serves as the acts of a law. -/
theorem ARow.acts {W w : World} {v : Value} {l : List Act1} (h : ARow W w v l) : IsActs w v l := by
  rcases Nat.eq_zero_or_pos l.length with h0 | h0
  · obtain ⟨a, cap, hv⟩ := own_shape h.row
    exact ⟨a, cap, hv, fun hp => absurd hp (by omega)⟩
  · rcases h.row.2 with ⟨_, hn⟩ | ⟨g, cap, cur, hv, hg, hh, hnc, hcm, hcs, hx⟩
    · omega
    · refine ⟨_, cap, hv, fun _ => ⟨g, 0, rfl, lt_of_obj hh, fun i A hi => ?_⟩⟩
      have hil := (List.getElem?_eq_some_iff.1 hi).1
      obtain ⟨k0, k1, k2, k3⟩ := aCells_get l i A hi
      rw [← hx] at k0 k1 k2 k3
      rw [List.getElem?_take_of_lt (by omega)] at k0 k1 k2 k3
      have ok := h.ok A (List.mem_of_getElem? hi)
      rw [Nat.zero_add]
      exact ⟨(cell_of_block hh _).trans (by simpa using k0), (cell_of_block hh _).trans (by simpa using k1), (cell_of_block hh _).trans (by simpa using k2), (cell_of_block hh _).trans (by simpa using k3), ok.d, ok.wno, ok.wsz⟩

theorem IsActs.take {w : World} {a : Option Addr} {n cap : Nat} {l : List Act1} (h : IsActs w (.slice a n cap) l) (m : Nat) (hm : m ≤ l.length) (c : Nat) : IsActs w (.slice a m c) (l.take m) := by
  obtain ⟨ao, cp, e, hx⟩ := h
  injection e with e1 e2 e3
  subst e1
  refine ⟨a, c, by rw [List.length_take, Nat.min_eq_left hm], fun hp => ?_⟩
  obtain ⟨b, o, hb, hlt, hA⟩ := hx (by rw [List.length_take] at hp; omega)
  refine ⟨b, o, hb, hlt, fun i A hi => hA i A ?_⟩
  rw [List.getElem?_take] at hi
  split at hi
  · exact hi
  · simp at hi

/-- The first bytes of a block. -/
theorem holds_pre {w : World} {g : Nat} {zs : List Nat} {C : Array Value} (hC : C.toList = u8s zs) (hg : w.heap[g]? = some (.cells C 5 (0, 0))) (m c : Nat) (hm : m ≤ zs.length) (hc : m ≤ c) : Holds8 w (.slice (some ⟨g, 0, none⟩) m c) (zs.take m) := by
  have hl : (zs.take m).length = m := by rw [List.length_take]; omega
  refine ⟨some ⟨g, 0, none⟩, c, by rw [hl], by omega, by simp, fun _ x hx => by injection hx with hx; subst hx; exact lt_of_obj hg, fun h0 => ⟨g, 0, rfl, fun j hj => ?_⟩⟩
  rw [hl] at hj
  have e := u8s_get zs j (by omega)
  rw [← hC] at e
  rw [Nat.zero_add, cell_of_block hg]
  have : (zs.take m).getD j 0 = zs.getD j 0 := by
    simp [List.getD, List.getElem?_take, hj]
  rw [this, ← e]
  simp

/-- The acts of great sizes. -/
def bigL : List Act1 := [⟨0, 0, 2305843009213693952, .slice none 0 0, []⟩, ⟨0, 0, 2305843009213693952, .slice none 0 0, []⟩, ⟨6, 0, 4611686018427387904, .slice none 0 0, []⟩, ⟨0, 0, -9223372036854775808, .slice none 0 0, []⟩]
theorem big_acts {w : World} {g : Nat} (hg : w.heap[g]? = some (.cells #[.int .i64 0, .int .u64 0, .int .i64 2305843009213693952, .slice none 0 0, .int .i64 0, .int .u64 0, .int .i64 2305843009213693952, .slice none 0 0, .int .i64 6, .int .u64 0, .int .i64 4611686018427387904, .slice none 0 0, .int .i64 0, .int .u64 0, .int .i64 (-9223372036854775808), .slice none 0 0] 39 (0, 0))) :
    IsActs w (.slice (some ⟨g, 0, none⟩) 4 4) bigL := by
  refine ⟨_, 4, rfl, fun _ => ⟨g, 0, rfl, lt_of_obj hg, fun i A hi => ?_⟩⟩
  have hil : i < 4 := (List.getElem?_eq_some_iff.1 hi).1
  rcases (show i = 0 ∨ i = 1 ∨ i = 2 ∨ i = 3 by omega) with rfl | rfl | rfl | rfl
  all_goals
    injection hi with hi
    subst hi
    exact ⟨cell_of_block hg _, cell_of_block hg _, cell_of_block hg _, cell_of_block hg _, holds_nil _, ⟨by decide, by decide⟩, ⟨by decide, by decide⟩⟩

/-- Ahead of each round of the making. -/
def MRel (W : World) (v3 v4 v2 : Value) (w : World) : Prop :=
  ∃ (l : List Act1) (k n : Nat), v3 = .int .i64 k ∧ v4 = .int .i64 n ∧ l.length = n ∧ n ≤ 60 ∧ k ≤ 100002 ∧ ARow W w v2 l
/-- Ahead of each round. -/
def BRel (W : World) (v : Value) (w : World) : Prop := ∃ i : Nat, v = .int .i64 i ∧ i ≤ 50 ∧ Below W.heap.size W w

theorem info_act : (Try.prog.info? 39).map (fun i => (i.zero, i.size, i.bytes)) = some (some (.agg #[.int .i64 0, .int .u64 0, .int .i64 0, .slice none 0 0]), 4, 48) := by kernel_rfl
end Go.Proofs.Ytpnhdfingcfbnaa

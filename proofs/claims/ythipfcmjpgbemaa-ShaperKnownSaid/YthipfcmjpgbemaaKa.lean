/- ShaperKnown: classes and acts that a call makes, as a law's. -/
import Derived.Test.YthipfcmjpgbemaaGv
import Derived.Test.YthipfcmjpgbemaaGw
import Derived.Test.YthipfcmjpgbemaaGz
namespace Go.Proofs.Ythipfcmjpgbemaa
open Go.RowKit

/-- A row of classes of the call's own serves as a law's. -/
theorem R4.cls {w : World} {B : Nat} {v : Value} {l : List Cl} (h : R4 w B 46 v (l.map cRow)) (ho : ∀ x ∈ l, x.Ok) : Cls w v l := by
  obtain ⟨a, cap, ev⟩ := h.shape
  rw [List.length_map] at ev
  have hcap : l.length ≤ cap := by
    rcases h.row.2 with ⟨_, h0⟩ | ⟨g', cp', cur', hv', _, _, hnc, _⟩
    · rw [List.length_map] at h0; omega
    · rw [ev] at hv'
      injection hv' with _ _ e
      rw [List.length_map] at hnc
      omega
  refine ⟨⟨a, cap, ev, hcap, fun h0 => ?_⟩, ho⟩
  obtain ⟨x0, hx0⟩ : ∃ x, l[0]? = some x := ⟨_, List.getElem?_eq_getElem h0⟩
  obtain ⟨g, cp, cur, ev2, -, hh, -⟩ := h.at (c := 0) (r := cRow x0) (by rw [List.getElem?_map, hx0]; rfl)
  rw [ev] at ev2
  injection ev2 with e1 e2 e3
  refine ⟨g, 0, e1, lt_of_obj hh, fun j x hj => ?_⟩
  obtain ⟨g2, cp2, cur2, ev3, -, hh2, -, -, -, -, hc⟩ := h.at (c := j) (r := cRow x) (by rw [List.getElem?_map, hj]; rfl)
  rw [ev, e1] at ev3
  injection ev3 with e4 _ _
  injection e4 with e4
  injection e4 with e4
  subst e4
  rw [Nat.zero_add]
  exact ⟨hc 0 (by decide), hc 1 (by decide), hc 2 (by decide), hc 3 (by decide)⟩

/-- Acts as cells. -/
def acCells : List Ac → List Value
  | [] => []
  | A :: l => .int .i64 A.kind :: .int .i64 A.cls :: .int .u64 A.no :: .int .i64 A.size :: A.dv :: .int .u64 A.tick :: acCells l
theorem acCells_len : ∀ (l : List Ac), (acCells l).length = l.length * 6
  | [] => rfl
  | A :: l => by simp [acCells, acCells_len l]; omega
theorem acCells_snoc : ∀ (l : List Ac) (A : Ac), acCells l ++ [.int .i64 A.kind, .int .i64 A.cls, .int .u64 A.no, .int .i64 A.size, A.dv, .int .u64 A.tick] = acCells (l ++ [A])
  | [], A => rfl
  | x :: l, A => by simp [acCells, ← acCells_snoc l A]
theorem acCells_get : ∀ {l : List Ac} {i : Nat} {A : Ac}, l[i]? = some A → (acCells l)[i * 6]? = some (.int .i64 A.kind) ∧ (acCells l)[i * 6 + 1]? = some (.int .i64 A.cls) ∧ (acCells l)[i * 6 + 2]? = some (.int .u64 A.no) ∧ (acCells l)[i * 6 + 3]? = some (.int .i64 A.size) ∧ (acCells l)[i * 6 + 4]? = some A.dv ∧ (acCells l)[i * 6 + 5]? = some (.int .u64 A.tick)
  | [], i, A, h => by simp at h
  | x :: l, 0, A, h => by
    simp at h
    subst h
    exact ⟨rfl, rfl, rfl, rfl, rfl, rfl⟩
  | x :: l, i + 1, A, h => by
    obtain ⟨h0, h1, h2, h3, h4, h5⟩ := acCells_get (l := l) (i := i) (A := A) (by simpa using h)
    have e : ∀ j, (acCells (x :: l))[(i + 1) * 6 + j]? = (acCells l)[i * 6 + j]? := fun j => by
      rw [show (i + 1) * 6 + j = i * 6 + j + 6 by omega]
      rfl
    exact ⟨(e 0).trans h0, (e 1).trans h1, (e 2).trans h2, (e 3).trans h3, (e 4).trans h4, (e 5).trans h5⟩
/-- An act without data. -/
structure Bare (A : Ac) : Prop where
  dv : A.dv = .slice none 0 0
  ds : A.ds = []
  wf : A.Wf
theorem acs_of {w : World} {B : Nat} {v : Value} {l : List Ac} (h : w.ownsRow B 36 6 v l.length (acCells l)) (hb : ∀ A ∈ l, Bare A) : IsAcs w v l := by
  rcases Nat.eq_zero_or_pos l.length with h0 | h0
  · obtain ⟨a, cap, hv⟩ := own_shape h
    exact ⟨a, cap, hv, fun hp => absurd hp (by omega)⟩
  · rcases h.2 with ⟨_, hn⟩ | ⟨g, cap, cur, hv, hg, hh, hnc, hcm, hcs, hx⟩
    · omega
    · refine ⟨_, cap, hv, fun _ => ⟨g, 0, rfl, lt_of_obj hh, fun i A hi => ?_⟩⟩
      have hil := (List.getElem?_eq_some_iff.1 hi).1
      obtain ⟨k0, k1, k2, k3, k4, k5⟩ := acCells_get hi
      rw [← hx] at k0 k1 k2 k3 k4 k5
      rw [List.getElem?_take_of_lt (by omega)] at k0 k1 k2 k3 k4 k5
      have hB := hb A (List.mem_of_getElem? hi)
      rw [Nat.zero_add]
      refine ⟨(cell_of_block hh _).trans (by simpa using k0), (cell_of_block hh _).trans (by simpa using k1), (cell_of_block hh _).trans (by simpa using k2), (cell_of_block hh _).trans (by simpa using k3), (cell_of_block hh _).trans (by simpa using k4), (cell_of_block hh _).trans (by simpa using k5), ?_, hB.wf⟩
      rw [hB.dv, hB.ds]
      exact holds_nil _
theorem IsAcs.take {w : World} {a : Option Addr} {n cap : Nat} {l : List Ac} (h : IsAcs w (.slice a n cap) l) (m : Nat) (hm : m ≤ l.length) (c : Nat) : IsAcs w (.slice a m c) (l.take m) := by
  obtain ⟨ao, cp, e, hx⟩ := h
  injection e with e1 e2 e3
  subst e1
  refine ⟨a, c, by rw [List.length_take, Nat.min_eq_left hm], fun hp => ?_⟩
  obtain ⟨b, o, hb, hlt, hA⟩ := hx (by rw [List.length_take] at hp; omega)
  refine ⟨b, o, hb, hlt, fun i A hi => hA i A ?_⟩
  rw [List.getElem?_take] at hi
  split at hi
  · exact hi
  · simp at hi
theorem six_new (w : World) (n : Nat) (hn : w.heap.size = n) (a b c d f g : Value) (e : TypeId) : ∀ j u, [a, b, c, d, f, g][j]? = some u → (w.alloc (.cells #[a, b, c, d, f, g] e)).cell? ((⟨n, 0, none⟩ : Addr).add j) = some u := by
  subst hn
  intro j u h
  have hj : j < 6 := (List.getElem?_eq_some_iff.1 h).1
  rw [Addr.add_lit, Nat.zero_add]
  refine (cell_of_block (alloc_block_new w _) j).trans ?_
  rcases (show j = 0 ∨ j = 1 ∨ j = 2 ∨ j = 3 ∨ j = 4 ∨ j = 5 by omega) with rfl | rfl | rfl | rfl | rfl | rfl <;> simpa using h
theorem info_sc : (Try.prog.info? 46).map (fun i => (i.zero, i.size, i.bytes)) = some (some (.agg #[.int .u64 0, .int .u64 0, .int .i64 0, .int .i64 0]), 4, 32) := by kernel_rfl
theorem info_sa : (Try.prog.info? 36).map (fun i => (i.zero, i.size, i.bytes)) = some (some (.agg #[.int .i64 0, .int .i64 0, .int .u64 0, .int .i64 0, .slice none 0 0, .int .u64 0]), 6, 64) := by kernel_rfl

/-- The odd classes, the acts about the bounds. -/
def oddL : List Cl := [⟨0, 2047, 0, 0⟩, ⟨0, 2048, -1, 0⟩, ⟨0, 2048, 0, -1⟩, ⟨0, 2048, 65537, 0⟩, ⟨18446744073709551615, 18446744073709551615, 65536, 9223372036854775807⟩]
theorem odd_ok : ∀ x ∈ oddL, x.Ok := by
  intro x hx
  simp [oddL] at hx
  rcases hx with rfl | rfl | rfl | rfl | rfl <;> exact ⟨by decide, by decide, by decide, by decide⟩
def bare (kind cls size : Int) (tick : Nat) : Ac := ⟨kind, cls, 0, size, .slice none 0 0, [], tick⟩
def allA : List Ac := [bare 0 0 2048 0, bare 0 0 2049 0, bare 0 0 (-1) 0, bare 0 (-1) 0 0, bare 0 1 0 0, bare 3 0 0 18446744073709551615, bare 0 0 1 0, bare 3 0 0 0, bare 5 0 0 0]
theorem all_bare : ∀ A ∈ allA, Bare A := by
  intro A hA
  simp [allA] at hA
  rcases hA with rfl | rfl | rfl | rfl | rfl | rfl | rfl | rfl | rfl <;> exact ⟨rfl, rfl, ⟨by decide, by decide, by decide, by decide, by decide⟩⟩
/-- A row in a block. -/
theorem cls_blk {w : World} {g : Nat} {cs : Array Value} (hg : w.heap[g]? = some (.cells cs 46 (0, 0))) (l : List Cl) (hc : cs.toList = (l.map cRow).flatten) (hl : l.length ≤ 1000000) (ho : ∀ x ∈ l, x.Ok) : Cls w (.slice (some ⟨g, 0, none⟩) l.length l.length) l := by
  have h4 : ∀ r ∈ l.map cRow, r.length = 4 := fun r hr => by
    obtain ⟨x, -, rfl⟩ := List.mem_map.1 hr
    rfl
  have hlen := flat4_len h4
  rw [List.length_map] at hlen
  refine R4.cls (B := 0) ⟨?_, h4⟩ ho
  rw [List.length_map]
  refine ⟨hlen, .inr ⟨g, l.length, cs, rfl, Nat.zero_le _, hg, Nat.le_refl _, by unfold maxLen; omega, by rw [← Array.length_toList, hc, hlen], ?_⟩⟩
  rw [hc, List.take_of_length_le (by omega)]
theorem Cls.sub {w : World} {g n c : Nat} {l : List Cl} (h : Cls w (.slice (some ⟨g, 0, none⟩) n c) l) {i : Nat} {x : Cl} (hi : l[i]? = some x) (cap : Nat) (hcap : 1 ≤ cap) : Cls w (.slice (some ⟨g, i * 4, none⟩) 1 cap) [x] := by
  obtain ⟨a, c', e, hc, hx⟩ := h.sh
  injection e with e1 e2 e3
  subst e1
  have hil := (List.getElem?_eq_some_iff.1 hi).1
  obtain ⟨b, o, eb, hb, hj⟩ := hx (by omega)
  injection eb with eb
  injection eb with eb1 eb2
  subst eb1 eb2
  refine ⟨⟨_, cap, rfl, hcap, fun _ => ⟨g, i * 4, rfl, hb, fun j y hy => ?_⟩⟩, fun y hy => ?_⟩
  · match j, hy with
    | 0, hy =>
      injection hy with hy
      subst hy
      have := hj i x hi
      rw [Nat.zero_add] at this
      simpa using this
    | j + 1, hy => simp at hy
  · simp at hy
    rw [hy]
    exact h.ok x (List.mem_of_getElem? hi)
end Go.Proofs.Ythipfcmjpgbemaa

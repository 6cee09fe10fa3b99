/- A disk as it lies in memory: who owns which block; the small functions, walked. -/
import Derived.Test.YtbgjahgmkbbgjaaClone
namespace Go.Proofs.Ytbgjahgmkbbgjaa
open Go.RowKit

/-- A disk: durable bytes, bytes as they are read, unsynced writes. -/
structure DS where
  dur : List Nat
  now : List Nat
  uns : List (Nat × List Nat)

/-- The cells of writes; F: the blocks that their bytes lie in. -/
def WCells (w : World) (F : Nat → Prop) : List Value → List (Nat × List Nat) → Prop
  | [], [] => True
  | x :: y :: l, (a, d) :: r => x = .int .i64 a ∧ Own8 w 0 y d ∧ (∀ k, y.ownBlock = some k → F k) ∧ WCells w F l r
  | _, _ => False

/-- Roles: 1 the disk's own block, 2 durable, 3 now, 4 unsynced, 5 the bytes of the unsynced; 0: not the disk's. -/
structure IsD (w : World) (p : Nat) (r : Nat → Nat) (D : DS) (dv nv uv : Value) (xs : List Value) : Prop where
  blk : w.heap[p]? = some (.cells #[dv, nv, uv] 53 (0, 0))
  dur : Own8 w 0 dv D.dur
  now : Own8 w 0 nv D.now
  uns : w.ownsRow 0 46 2 uv D.uns.length xs
  wcs : WCells w (fun k => r k = 5) xs D.uns
  rp : r p = 1
  rd : ∀ k, dv.ownBlock = some k → r k = 2
  rn : ∀ k, nv.ownBlock = some k → r k = 3
  ru : ∀ k, uv.ownBlock = some k → r k = 4
  lt : ∀ k, r k ≠ 0 → k < w.heap.size

theorem WCells.keep {w w' : World} {F : Nat → Prop} {S : Nat → Prop} (hO : Only S w w') (hS : ∀ k, F k → ¬ S k) : ∀ {xs : List Value} {r : List (Nat × List Nat)}, WCells w F xs r → WCells w' F xs r
  | [], [], _ => trivial
  | [], _ :: _, h => h.elim
  | [_], [], h => h.elim
  | [_], _ :: _, h => h.elim
  | _ :: _ :: _, [], h => h.elim
  | _ :: _ :: _, (_, _) :: _, ⟨h1, h2, h3, h4⟩ => ⟨h1, own_only h2 hO (fun k hk => hS k (h3 k hk)), h3, h4.keep hO hS⟩
theorem WCells.mono {w : World} {F G : Nat → Prop} (hS : ∀ k, F k → G k) : ∀ {xs : List Value} {r : List (Nat × List Nat)}, WCells w F xs r → WCells w G xs r
  | [], [], _ => trivial
  | [], _ :: _, h => h.elim
  | [_], [], h => h.elim
  | [_], _ :: _, h => h.elim
  | _ :: _ :: _, [], h => h.elim
  | _ :: _ :: _, (_, _) :: _, ⟨h1, h2, h3, h4⟩ => ⟨h1, h2, fun k hk => hS k (h3 k hk), h4.mono hS⟩
theorem WCells.snoc {w : World} {F : Nat → Prop} {a : Nat} {d : List Nat} {y : Value} (hy : Own8 w 0 y d) (hF : ∀ k, y.ownBlock = some k → F k) : ∀ {xs : List Value} {r : List (Nat × List Nat)}, WCells w F xs r → WCells w F (xs ++ [.int .i64 a, y]) (r ++ [(a, d)])
  | [], [], _ => ⟨rfl, hy, hF, trivial⟩
  | [], _ :: _, h => h.elim
  | [_], [], h => h.elim
  | [_], _ :: _, h => h.elim
  | _ :: _ :: _, [], h => h.elim
  | _ :: _ :: _, (_, _) :: _, ⟨h1, h2, h3, h4⟩ => ⟨h1, h2, h3, h4.snoc hy hF⟩
theorem WCells.len {w : World} {F : Nat → Prop} : ∀ {xs : List Value} {r : List (Nat × List Nat)}, WCells w F xs r → xs.length = r.length * 2
  | [], [], _ => rfl
  | [], _ :: _, h => h.elim
  | [_], [], h => h.elim
  | [_], _ :: _, h => h.elim
  | _ :: _ :: _, [], h => h.elim
  | _ :: _ :: l, (_, _) :: r, ⟨_, _, _, h4⟩ => by
    have := h4.len
    simp only [List.length_cons]
    omega
theorem WCells.get {w : World} {F : Nat → Prop} : ∀ {xs : List Value} {r : List (Nat × List Nat)}, WCells w F xs r → ∀ i, i < r.length →
    ∃ a d y, r[i]? = some (a, d) ∧ xs[i * 2]? = some (.int .i64 (a : Nat)) ∧ xs[i * 2 + 1]? = some y ∧ Own8 w 0 y d ∧ ∀ k, y.ownBlock = some k → F k
  | [], [], _, i, hi => by simp at hi
  | [], _ :: _, h, _, _ => h.elim
  | [_], [], h, _, _ => h.elim
  | [_], _ :: _, h, _, _ => h.elim
  | _ :: _ :: _, [], h, _, _ => h.elim
  | _ :: y :: _, (a, d) :: _, ⟨h1, h2, h3, _⟩, 0, _ => ⟨a, d, y, rfl, by simp [h1], rfl, h2, h3⟩
  | _ :: _ :: _, (_, _) :: _, ⟨_, _, _, h4⟩, i + 1, hi => by
    obtain ⟨a, d, y, e1, e2, e3, e4⟩ := h4.get i (by simpa using hi)
    refine ⟨a, d, y, by simpa using e1, ?_, ?_, e4⟩
    · rw [show (i + 1) * 2 = i * 2 + 1 + 1 by omega]; simpa using e2
    · rw [show (i + 1) * 2 + 1 = i * 2 + 1 + 1 + 1 by omega]; simpa using e3

/-- Behind changes of other blocks. -/
theorem IsD.keep {w w' : World} {p : Nat} {r : Nat → Nat} {D : DS} {dv nv uv : Value} {xs : List Value} (h : IsD w p r D dv nv uv xs) {S : Nat → Prop} (hO : Only S w w') (hS : ∀ k, r k ≠ 0 → ¬ S k) : IsD w' p r D dv nv uv xs :=
  ⟨hO.keep h.blk (hS p (by rw [h.rp]; decide)), own_only h.dur hO (fun k hk => hS k (by rw [h.rd k hk]; decide)), own_only h.now hO (fun k hk => hS k (by rw [h.rn k hk]; decide)),
    own_only h.uns hO (fun k hk => hS k (by rw [h.ru k hk]; decide)), h.wcs.keep hO (fun k hk => hS k (by rw [hk]; decide)), h.rp, h.rd, h.rn, h.ru, fun k hk => Nat.lt_of_lt_of_le (h.lt k hk) hO.size⟩

theorem IsD.c0 {w : World} {p : Nat} {r : Nat → Nat} {D : DS} {dv nv uv : Value} {xs : List Value} (h : IsD w p r D dv nv uv xs) : w.cell? ⟨p, 0, none⟩ = some dv := cell_of_block h.blk 0
theorem IsD.c1 {w : World} {p : Nat} {r : Nat → Nat} {D : DS} {dv nv uv : Value} {xs : List Value} (h : IsD w p r D dv nv uv xs) : w.cell? ⟨p, 1, none⟩ = some nv := cell_of_block h.blk 1
theorem IsD.c2 {w : World} {p : Nat} {r : Nat → Nat} {D : DS} {dv nv uv : Value} {xs : List Value} (h : IsD w p r D dv nv uv xs) : w.cell? ⟨p, 2, none⟩ = some uv := cell_of_block h.blk 2

/-- The value is a slice; its length. -/
theorem Own8.shape {w : World} {base : Nat} {v : Value} {zs : List Nat} (h : Own8 w base v zs) : ∃ a cap, v = .slice a zs.length cap := own_shape h

theorem size_is {w : World} {p : Nat} {r : Nat → Nat} {D : DS} {dv nv uv : Value} {xs : List Value} (h : IsD w p r D dv nv uv xs) :
    Calls Try.prog 18 #[.pointer (some ⟨p, 0, none⟩)] w fun e w' => e = .returned (.int .i64 D.now.length) ∧ w' = w := by
  obtain ⟨a, cap, hv⟩ := h.now.shape
  have c1 := h.c1
  rw [hv] at c1
  go_enter Try.func18, Try.ntmps18
  go_wp2_with fail
  go_ret
  exact ⟨rfl, rfl⟩
theorem size_nil (w : World) :
    Calls Try.prog 18 #[.pointer none] w fun e w' => e = .returned (.int .i64 0) ∧ w' = w := by
  go_enter Try.func18, Try.ntmps18
  go_wp2_with fail
  go_ret
  exact ⟨rfl, rfl⟩

theorem now_is {w : World} {p : Nat} {r : Nat → Nat} {D : DS} {dv nv uv : Value} {xs : List Value} (h : IsD w p r D dv nv uv xs) :
    Calls Try.prog 25 #[.pointer (some ⟨p, 0, none⟩)] w fun e w' => e = .returned nv ∧ w' = w := by
  have c1 := h.c1
  go_enter Try.func25, Try.ntmps25
  go_wp2_with fail
  go_ret
  exact ⟨rfl, rfl⟩
theorem dur_is {w : World} {p : Nat} {r : Nat → Nat} {D : DS} {dv nv uv : Value} {xs : List Value} (h : IsD w p r D dv nv uv xs) :
    Calls Try.prog 28 #[.pointer (some ⟨p, 0, none⟩)] w fun e w' => e = .returned dv ∧ w' = w := by
  have c0 := h.c0
  go_enter Try.func28, Try.ntmps28
  go_wp2_with fail
  go_ret
  exact ⟨rfl, rfl⟩

/-- Do n bytes from a place on lie on a disk of N? -/
def liesB (N : Nat) (a n : Int) : Bool := decide (0 ≤ a ∧ 0 ≤ n ∧ a ≤ N ∧ n ≤ N - a)

theorem lies_is (a n : Int) {w : World} {p : Nat} {r : Nat → Nat} {D : DS} {dv nv uv : Value} {xs : List Value} (h : IsD w p r D dv nv uv xs) (hN : D.now.length ≤ 65536) :
    Calls Try.prog 26 #[.pointer (some ⟨p, 0, none⟩), .int .i64 a, .int .i64 n] w fun e w' => e = .returned (.bool (liesB D.now.length a n)) ∧ w' = w := by
  have hs := size_is h
  generalize D.now.length = N at *
  clear h
  by_cases h1 : 0 ≤ a
  · by_cases h2 : 0 ≤ n
    · by_cases h3 : a ≤ N
      · have e : liesB N a n = decide (n ≤ N - a) := by simp [liesB, h1, h2, h3]
        rw [e]
        go_enter Try.func26, Try.ntmps26
        go_wp2_with (first | (go_at_call 18; refine hs.mono ?_; rintro e w' ⟨rfl, rfl⟩))
        go_ret
        exact ⟨rfl, rfl⟩
      · have e : liesB N a n = false := by simp [liesB, h3]
        rw [e]
        go_enter Try.func26, Try.ntmps26
        go_wp2_with (first | (go_at_call 18; refine hs.mono ?_; rintro e w' ⟨rfl, rfl⟩))
        go_ret
        exact ⟨rfl, rfl⟩
    · have e : liesB N a n = false := by simp [liesB, h2]
      rw [e]
      go_enter Try.func26, Try.ntmps26
      go_wp2_with (first | (go_at_call 18; refine hs.mono ?_; rintro e w' ⟨rfl, rfl⟩))
      go_ret
      exact ⟨rfl, rfl⟩
  · have e : liesB N a n = false := by simp [liesB, h1]
    rw [e]
    go_enter Try.func26, Try.ntmps26
    go_wp2_with (first | (go_at_call 18; refine hs.mono ?_; rintro e w' ⟨rfl, rfl⟩))
    go_ret
    exact ⟨rfl, rfl⟩

/-- The roles of a new disk's blocks. -/
def role3 (p g h : Nat) : Nat → Nat := fun k => if k = p then 1 else if k = g then 2 else if k = h then 3 else 0

theorem new_neg (n : Int) (hn : n < 0) (w : World) :
    Calls Try.prog 9 #[.int .i64 n] w fun e w' => e = .returned (.tuple #[.pointer none, .int .i64 2]) ∧ w' = w := by
  go_enter Try.func9, Try.ntmps9
  go_wp2_with fail
  go_ret2
  exact ⟨rfl, rfl⟩
theorem new_big (n : Int) (hn : 65536 < n) (w : World) :
    Calls Try.prog 9 #[.int .i64 n] w fun e w' => e = .returned (.tuple #[.pointer none, .int .i64 3]) ∧ w' = w := by
  have h0 : ¬ n < 0 := by omega
  go_enter Try.func9, Try.ntmps9
  go_wp2_with fail
  go_ret2
  exact ⟨rfl, rfl⟩

theorem made_zeros (n : Nat) : (madeCells (Value.int .u8 0).cells n).toList = u8s (List.replicate n 0) := by
  apply List.ext_getElem?
  intro j
  by_cases hj : j < n
  · simp [madeCells, u8s, Value.cells, hj, List.getElem?_replicate, Nat.mod_one]
  · have h1 : (madeCells (Value.int .u8 0).cells n).toList.length = n := by simp [madeCells]
    rw [List.getElem?_eq_none (by omega), List.getElem?_eq_none (by simp; omega)]

theorem make_u8 (n : Nat) (hn : n ≤ 65536) (w : World) : ∃ C : Array Value, (C.size = n ∧ C.toList = u8s (List.replicate n 0)) ∧
    ∀ w : World, (Instr.makeSlice 31 (.int .i64 n) (.int .i64 n)).run Try.prog w = .ok (.slice (some ⟨w.heap.size, 0, none⟩) n n) (w.alloc (.cells C 5)) := by
  obtain ⟨i0, hi, hz0, hz1, hz2⟩ := info_parts info_u8c
  refine ⟨madeCells (Value.int .u8 0).cells n, ⟨by simp [madeCells], made_zeros n⟩, fun w => ?_⟩
  have h := run_makeSlice (P := Try.prog) w 31 5 i0 (.int .u8 0) Try.underlying31 hi hz0 .i64 .i64 n n (by omega) (Int.le_refl _) (by rw [hz1]; simp; omega) (by rw [hz2]; omega) (by omega)
  rw [hz1] at h
  simpa using h

theorem own_zeros {w : World} {g n : Nat} {C : Array Value} (hn : n ≤ 65536) (hC : C.size = n ∧ C.toList = u8s (List.replicate n 0)) (hg : w.heap[g]? = some (.cells C 5 (0, 0))) : Own8 w 0 (.slice (some ⟨g, 0, none⟩) n n) (List.replicate n 0) :=
  ⟨by simp, .inr ⟨g, n, C, by simp, Nat.zero_le _, hg, by simp, by unfold maxLen; omega, by simp [hC.1], by rw [hC.2, List.take_of_length_le (by simp)]⟩⟩

theorem new_lies {w : World} {p g h n : Nat} {C : Array Value} (hn : n ≤ 65536) (hC : C.size = n ∧ C.toList = u8s (List.replicate n 0)) (hg : w.heap[g]? = some (.cells C 5 (0, 0))) (hh : w.heap[h]? = some (.cells C 5 (0, 0)))
    (hp : w.heap[p]? = some (.cells #[.slice (some ⟨g, 0, none⟩) n n, .slice (some ⟨h, 0, none⟩) n n, .slice none 0 0] 53 (0, 0))) (h1 : g ≠ h) (h2 : g ≠ p) (h3 : h ≠ p) :
    IsD w p (role3 p g h) ⟨List.replicate n 0, List.replicate n 0, []⟩ (.slice (some ⟨g, 0, none⟩) n n) (.slice (some ⟨h, 0, none⟩) n n) (.slice none 0 0) [] where
  blk := hp
  dur := own_zeros hn hC hg
  now := own_zeros hn hC hh
  uns := World.ownsRow_nil _ _ _ _
  wcs := trivial
  rp := by simp [role3]
  rd := by intro k hk; injection hk with hk; subst hk; simp [role3, h2]
  rn := by intro k hk; injection hk with hk; subst hk; simp [role3, h3, Ne.symm h1]
  ru := by intro k hk; cases hk
  lt := by
    intro k hk
    simp only [role3] at hk
    split at hk
    · rename_i e; subst e; exact lt_of_obj hp
    · split at hk
      · rename_i e; subst e; exact lt_of_obj hg
      · split at hk
        · rename_i e; subst e; exact lt_of_obj hh
        · exact (hk rfl).elim
theorem role3_ne {p g h k : Nat} (hk : role3 p g h k ≠ 0) : k = p ∨ k = g ∨ k = h := by
  simp only [role3] at hk
  split at hk
  · exact .inl ‹_›
  · split at hk
    · exact .inr (.inl ‹_›)
    · split at hk
      · exact .inr (.inr ‹_›)
      · exact (hk rfl).elim

theorem new_is (n : Nat) (hn : n ≤ 65536) (w : World) :
    Calls Try.prog 9 #[.int .i64 n] w fun e w' => ∃ p r dv nv uv xs, e = .returned (.tuple #[.pointer (some ⟨p, 0, none⟩), .int .i64 0]) ∧
      IsD w' p r ⟨List.replicate n 0, List.replicate n 0, []⟩ dv nv uv xs ∧ Only (fun _ => False) w w' ∧ ∀ k, r k ≠ 0 → w.heap.size ≤ k := by
  obtain ⟨C, hC, mk⟩ := make_u8 n hn w
  have HC := Lib.hid hC
  clear hC
  go_enter Try.func9, Try.ntmps9
  go_wp2_with fail
  go_region
  all_goals
    go_wp2_with fail
    have a0 : ∀ a b c : Obj, (((w.alloc a).alloc b).alloc c).drew.heap[w.heap.size]? = some a := fun a b c => (alloc_block_old (w := (w.alloc a).alloc b) c (by simp; omega)).trans ((alloc_block_old (w := w.alloc a) b (by simp)).trans (alloc_block_new w a))
    have a1 : ∀ a b c : Obj, (((w.alloc a).alloc b).alloc c).drew.heap[w.heap.size + 1]? = some b := fun a b c => (alloc_block_old (w := (w.alloc a).alloc b) c (by simp)).trans (alloc_block_at _ _ (by simp))
    have a2 : ∀ a b c : Obj, (((w.alloc a).alloc b).alloc c).drew.heap[w.heap.size + 1 + 1]? = some c := fun a b c => alloc_block_at _ _ (by simp)
    have hO : ∀ a b c : Obj, Only (fun _ => False) w (((w.alloc a).alloc b).alloc c).drew := fun a b c => ((((Only.refl _ _).alloc _).alloc _).alloc _).drew
    go_ret2
    refine ⟨_, _, _, _, _, _, rfl, new_lies hn HC.out (by first | exact a0 _ _ _ | exact a1 _ _ _) (by first | exact a0 _ _ _ | exact a1 _ _ _) (a2 _ _ _) (by omega) (by omega) (by omega), hO _ _ _, ?_⟩
    intro k hk
    have := role3_ne hk
    omega
end Go.Proofs.Ytbgjahgmkbbgjaa

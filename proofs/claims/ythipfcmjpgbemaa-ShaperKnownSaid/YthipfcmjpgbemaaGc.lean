/- An argument that is a slice of structs of one-cell fields, opened: a lemma of the guide's page of lemmas to copy. -/
import Derived.Deep.Slices
import Derived.Deep.Fields
import Derived.ChangeSame
import Derived.Test.YthipfcmjpgbemaaGa
import Derived.OpenShut
import Derived.Laws.BytesArg
import Derived.Laws.BytesString
import Derived.Deep.QuietTactic
import Derived.BigQuiet
import Derived.IntWalk
import Derived.RangeFuncGives
import Derived.RangeFuncBox
import Derived.RangeFuncRecord
import Derived.RangeFuncLeaves
import Derived.TacticsIn
import Derived.BigFrameIn
import Derived.OwnWalkIn
import Derived.LoopIn
import Derived.Shelf.Abstract
namespace Go.Proofs.Ythipfcmjpgbemaa
open Go.ChangeShapes Go.WideShapes Go.Deep Go.RowKit
section
variable {H : Type} {enc : TypeId × Value → H} {P : Program} {w : World} {base : Nat} {spare : Nat → Bool} {held : Bool}
theorem open_slice_fields {t e : TypeId} {fs : Array Field} {fuel : Nat} {cs : List Value} {x : DataW H × List MemPlace} (ht : P.underlying t = some (.slice e)) (he : P.underlying e = some (.struct fs))
    (hone : oneCellFields P fs = true) (hC : P.cellsOf e = fs.size) (h : DataW.trod enc P w base spare held fuel t cs = some x) :
    (cs = [.slice none 0 0] ∧ x = (.nil, [])) ∨
    ∃ (a : Addr) (len cap m : Nat) (D : Nat → DataW H) (Pl : Nat → List MemPlace), cs = [.slice (some a) len cap] ∧ base ≤ a.block ∧ len ≤ cap ∧ cap ≤ maxLen ∧ m = (if spare a.block then cap else len) ∧
      x = (.slice ((List.range len).map D) ((List.range (m - len)).map fun j => D (len + j)), MemPlace.row a (m * fs.size) ++ (List.range m).flatMap Pl) ∧
      ∀ i, i < m → ∃ (ys : List (DataW H × List MemPlace)) (n : Nat), D i = .agg (ys.map (·.1)) ∧ Pl i = ys.flatMap (·.2) ∧ ys.length = fs.size ∧
        ∀ (j : Nat) (f : Field), fs[j]? = some f → ∃ (v : Value) (y : DataW H × List MemPlace), w.cell? (a.add (i * fs.size + j)) = some v ∧ ys[j]? = some y ∧ DataW.trod enc P w base spare held n f.type [v] = some y := by
  rcases open_slice ht h with h0 | ⟨a, len, cap, m, n, D, Pl, hcs, hb, hl, hm, hmm, hx, hi⟩
  · exact .inl h0
  · refine .inr ⟨a, len, cap, m, D, Pl, hcs, hb, hl, hm, hmm, by rw [hC] at hx; exact hx, fun i him => ?_⟩
    obtain ⟨cs', hc, ht'⟩ := hi i him
    rw [hC] at hc
    obtain ⟨ys, n', hn', hy, hlen, hyl, hf⟩ := DataW.trod_struct he ht'
    obtain ⟨_, hcl, hat⟩ := World.cells?_some hc
    simp only [Prod.mk.injEq] at hy
    refine ⟨ys, n', hy.1, hy.2, hyl, fun j f hj => ?_⟩
    obtain ⟨ho, hk⟩ := hone_of hone j f hj
    have hjl : j < fs.size := (Array.getElem?_eq_some_iff.1 hj).1
    have hcell := hat j hjl
    have hv : cs'[j]? = some (cs'[j]'(by omega)) := List.getElem?_eq_getElem (by omega)
    have h1 := hf j f hj
    rw [ho, hk] at h1
    have hone' : (cs'.drop j).take 1 = [cs'[j]'(by omega)] := by
      rw [List.drop_eq_getElem_cons (by omega)]
      rfl
    rw [hone'] at h1
    have hys : ys[j]? = some (ys[j]'(by omega)) := List.getElem?_eq_getElem (by omega)
    refine ⟨_, _, ?_, hys, h1.trans hys⟩
    rw [← Go.Deep.add_add, hcell, hv]
end

theorem list_choose {α : Type} {Q : Nat → α → Prop} : ∀ n : Nat, (∀ i, i < n → ∃ x, Q i x) → ∃ l : List α, l.length = n ∧ ∀ i x, l[i]? = some x → Q i x
  | 0, _ => ⟨[], rfl, by simp⟩
  | n + 1, h => by
    obtain ⟨l, hl, hq⟩ := list_choose n (fun i hi => h i (by omega))
    obtain ⟨x, hx⟩ := h n (by omega)
    refine ⟨l ++ [x], by simp [hl], fun i y hy => ?_⟩
    by_cases hi : i < n
    · rw [List.getElem?_append_left (by omega)] at hy
      exact hq i y hy
    · have hin : i = n := by
        have := (List.getElem?_eq_some_iff.1 hy).1
        simp [hl] at this
        omega
      subst hin
      rw [List.getElem?_append_right (by omega), hl] at hy
      simp at hy
      subst hy
      exact hx

section
variable {H : Type} {enc : TypeId × Value → H} {w : World} {base : Nat} {spare : Nat → Bool} {held : Bool}
/-- Bytes that came in. -/
theorem open8 {fuel : Nat} {v : Value} {x : DataW H × List MemPlace} (h : DataW.trod enc Try.prog w base spare held fuel 32 [v] = some x) : ∃ ds, Holds8 w v ds := by
  rcases open_ints Try.underlying32 Try.underlying5 (by kernel_rfl) h with ⟨hcs, _⟩ | ⟨a, len, cap, zs, hcs, hb, hl, hm, hz, hx, hc, hw⟩
  · simp only [List.cons.injEq, and_true] at hcs
    exact ⟨[], none, 0, hcs, Nat.le_refl _, fun _ => rfl, by simp, fun h => absurd h (by simp)⟩
  · simp only [List.cons.injEq, and_true] at hcs
    subst hcs
    have hlen : len ≤ zs.length := by rw [hz]; split <;> omega
    have hds : ((zs.take len).map Int.toNat).length = len := by simp; omega
    refine ⟨(zs.take len).map Int.toNat, some a, cap, by rw [hds], by omega, by simp, fun h0 y hy => ?_, fun h0 => ?_⟩
    · injection hy with hy
      subst hy
      rw [hds] at h0
      have h1 := World.block_lt_of_cell? w _ (hc 0 (by omega))
      simpa [Addr.add] using h1
    · rw [hds] at h0
      have h0c := hc 0 (by omega)
      obtain ⟨b, o, spot⟩ := a
      have hs : spot = none := by simpa [Addr.add] using World.cell?_spot h0c
      subst hs
      refine ⟨b, o, rfl, fun j hj => ?_⟩
      rw [hds] at hj
      have hj2 := hc j (by omega)
      rw [Addr.add_lit] at hj2
      rw [hj2]
      have hzj : 0 ≤ zs.getD j 0 := (bounds_u8 (hw _ (by simp [List.getD, List.getElem?_eq_getElem (show j < zs.length by omega)]))).1
      simp [List.getD, List.getElem?_eq_getElem (show j < zs.length by omega), hj] at hzj ⊢
      omega
end
end Go.Proofs.Ythipfcmjpgbemaa

/- Bytes as a string. -/
namespace Go.Proofs.Ythipfcmjpgbemaa
open Go.RowKit

/-- Bytes as a string. -/
def str8 (zs : List Nat) : ByteArray := strOfNums (zs.map fun (z : Nat) => (z : Int))

theorem conv8 {w : World} {v : Value} {zs : List Nat} (h : Holds8 w v zs) : (convert 32 9 v).run Try.prog w = .ok (.string (str8 zs)) w := by
  obtain ⟨ao, cap, rfl, hc, hn, hlt, hx⟩ := h
  by_cases h0 : 0 < zs.length
  · obtain ⟨b, o, rfl, hcell⟩ := hx h0
    refine run_convert_bytes_arg (P := Try.prog) w 32 5 Try.underlying32 Try.underlying5 b o zs.length cap (zs.map fun (z : Nat) => (z : Int)) (by simp) (fun i hi => ?_) 9 Try.underlying9
    rw [hcell i hi]
    simp [List.getD, List.getElem?_eq_getElem hi]
  · have hz : zs = [] := List.eq_nil_of_length_eq_zero (by omega)
    subst hz
    cases ao with
    | none => exact run_convert_bytes_nil (P := Try.prog) w 32 5 Try.underlying32 Try.underlying5 _ cap 9 Try.underlying9
    | some x =>
      rw [run_convert_bytes_string w 32 9 5 _ _ cap Try.underlying32 Try.underlying5 Try.underlying9]
      have h := run_bytesToString (P := Try.prog) w x 0 cap [] (by simpa using run_loadCells_list (P := Try.prog) w x [] (fun j v hj => by simp at hj))
      exact h

end Go.Proofs.Ythipfcmjpgbemaa

/- A queue as it lies in memory; the small functions, walked. -/
namespace Go.Proofs.Ythipfcmjpgbemaa
open Go.RowKit

/-- An item. -/
structure It where
  no : Nat
  size : Nat
  data : List Nat

/-- A queue: items, bounds, drops. -/
structure QS where
  L : List It
  items : Nat
  bound : Nat
  drops : Nat

/-- The size of all items. -/
def sumQ (L : List It) : Nat := (L.map It.size).sum

/-- An item's three cells, from a place on; F: the blocks of its bytes. -/
structure ItAt (w : World) (F : Nat → Prop) (xs : List Value) (j : Nat) (x : It) (y : Value) : Prop where
  c0 : xs[j]? = some (.int .u64 x.no)
  c1 : xs[j + 1]? = some (.int .i64 x.size)
  c2 : xs[j + 2]? = some y
  d : Own8 w 0 y x.data
  f : ∀ k, y.ownBlock = some k → F k

/-- The items in a ring of n places, from place f on. -/
def RCells (w : World) (F : Nat → Prop) (f n : Nat) (xs : List Value) (L : List It) : Prop := ∀ i x, L[i]? = some x → ∃ y, ItAt w F xs ((f + i) % n * 3) x y

/-- Roles: 1 the queue's own block, 2 its ring, 3 the items' bytes; 0: not the queue's. -/
structure IsQ (w : World) (p : Nat) (r : Nat → Nat) (Q : QS) (rv : Value) (f n : Nat) (xs : List Value) : Prop where
  blk : w.heap[p]? = some (.cells #[rv, .int .i64 f, .int .i64 Q.L.length, .int .i64 (sumQ Q.L), .int .i64 Q.items, .int .i64 Q.bound, .int .u64 Q.drops] 120 (0, 0))
  ring : w.ownsRow 0 34 3 rv n xs
  rc : RCells w (fun k => r k = 3) f n xs Q.L
  from_ : f < n ∨ (n = 0 ∧ f = 0)
  room : Q.L.length ≤ n
  cap : n ≤ 200000
  few : Q.L.length ≤ Q.items
  items : Q.items ≤ 65536
  sum : sumQ Q.L ≤ Q.bound
  bound : Q.bound ≤ 9223372036854775807
  data : ∀ x ∈ Q.L, x.data.length ≤ 1000000
  rp : r p = 1
  rr : ∀ k, rv.ownBlock = some k → r k = 2
  lt : ∀ k, r k ≠ 0 → k < w.heap.size

theorem ItAt.keep {w w' : World} {F S : Nat → Prop} {xs : List Value} {j : Nat} {x : It} {y : Value} (h : ItAt w F xs j x y) (hO : Only S w w') (hS : ∀ k, F k → ¬ S k) : ItAt w' F xs j x y :=
  ⟨h.c0, h.c1, h.c2, own_only h.d hO (fun k hk => hS k (h.f k hk)), h.f⟩
theorem RCells.keep {w w' : World} {F S : Nat → Prop} {f n : Nat} {xs : List Value} {L : List It} (h : RCells w F f n xs L) (hO : Only S w w') (hS : ∀ k, F k → ¬ S k) : RCells w' F f n xs L := fun i x hx =>
  let ⟨y, hy⟩ := h i x hx
  ⟨y, hy.keep hO hS⟩

theorem IsQ.keep {w w' : World} {p : Nat} {r : Nat → Nat} {Q : QS} {rv : Value} {f n : Nat} {xs : List Value} (h : IsQ w p r Q rv f n xs) {S : Nat → Prop} (hO : Only S w w') (hS : ∀ k, r k ≠ 0 → ¬ S k) : IsQ w' p r Q rv f n xs :=
  ⟨hO.keep h.blk (hS p (by rw [h.rp]; decide)), own_only h.ring hO (fun k hk => hS k (by rw [h.rr k hk]; decide)), h.rc.keep hO (fun k hk => hS k (by rw [hk]; decide)), h.from_, h.room, h.cap, h.few, h.items, h.sum, h.bound, h.data, h.rp, h.rr, fun k hk => Nat.lt_of_lt_of_le (h.lt k hk) hO.size⟩
theorem IsQ.below {w w' : World} {p : Nat} {r : Nat → Nat} {Q : QS} {rv : Value} {f n : Nat} {xs : List Value} (h : IsQ w p r Q rv f n xs) (hB : Below w.heap.size w w') : IsQ w' p r Q rv f n xs := h.keep (Below.only hB (fun _ => False)) (fun _ _ h => h)

theorem IsQ.c0 {w : World} {p : Nat} {r : Nat → Nat} {Q : QS} {rv : Value} {f n : Nat} {xs : List Value} (h : IsQ w p r Q rv f n xs) : w.cell? ⟨p, 0, none⟩ = some rv := cell_of_block h.blk 0
theorem IsQ.c1 {w : World} {p : Nat} {r : Nat → Nat} {Q : QS} {rv : Value} {f n : Nat} {xs : List Value} (h : IsQ w p r Q rv f n xs) : w.cell? ⟨p, 1, none⟩ = some (.int .i64 f) := cell_of_block h.blk 1
theorem IsQ.c2 {w : World} {p : Nat} {r : Nat → Nat} {Q : QS} {rv : Value} {f n : Nat} {xs : List Value} (h : IsQ w p r Q rv f n xs) : w.cell? ⟨p, 2, none⟩ = some (.int .i64 Q.L.length) := cell_of_block h.blk 2
theorem IsQ.c3 {w : World} {p : Nat} {r : Nat → Nat} {Q : QS} {rv : Value} {f n : Nat} {xs : List Value} (h : IsQ w p r Q rv f n xs) : w.cell? ⟨p, 3, none⟩ = some (.int .i64 (sumQ Q.L)) := cell_of_block h.blk 3
theorem IsQ.c4 {w : World} {p : Nat} {r : Nat → Nat} {Q : QS} {rv : Value} {f n : Nat} {xs : List Value} (h : IsQ w p r Q rv f n xs) : w.cell? ⟨p, 4, none⟩ = some (.int .i64 Q.items) := cell_of_block h.blk 4
theorem IsQ.c5 {w : World} {p : Nat} {r : Nat → Nat} {Q : QS} {rv : Value} {f n : Nat} {xs : List Value} (h : IsQ w p r Q rv f n xs) : w.cell? ⟨p, 5, none⟩ = some (.int .i64 Q.bound) := cell_of_block h.blk 5
theorem IsQ.c6 {w : World} {p : Nat} {r : Nat → Nat} {Q : QS} {rv : Value} {f n : Nat} {xs : List Value} (h : IsQ w p r Q rv f n xs) : w.cell? ⟨p, 6, none⟩ = some (.int .u64 Q.drops) := cell_of_block h.blk 6
theorem IsQ.fr {w : World} {p : Nat} {r : Nat → Nat} {Q : QS} {rv : Value} {f n : Nat} {xs : List Value} (h : IsQ w p r Q rv f n xs) (i : Nat) : w.frozen? ⟨p, i, none⟩ = false := free_of_block h.blk i

theorem len_nil (w : World) : Calls Try.prog 63 #[.pointer none] w fun e w' => e = .returned (.int .i64 0) ∧ w' = w := by
  go_enter Try.func63, Try.ntmps63
  go_wp2_with fail
  go_ret
  exact ⟨rfl, rfl⟩
theorem len_is {w : World} {p : Nat} {r : Nat → Nat} {Q : QS} {rv : Value} {f n : Nat} {xs : List Value} (h : IsQ w p r Q rv f n xs) : Calls Try.prog 63 #[.pointer (some ⟨p, 0, none⟩)] w fun e w' => e = .returned (.int .i64 Q.L.length) ∧ w' = w := by
  have c := h.c2
  clear h
  go_enter Try.func63, Try.ntmps63
  go_wp2_with fail
  go_ret
  exact ⟨rfl, rfl⟩
theorem room_nil (s : Int) (w : World) : Calls Try.prog 46 #[.pointer none, .int .i64 s] w fun e w' => e = .returned (.bool false) ∧ ∃ n, w' = w.drewN n := by
  go_enter Try.func46, Try.ntmps46
  go_wp2_with fail
  go_quiet (fail)
  go_wp2_with fail
  go_ret
  exact ⟨rfl, _, rfl⟩

/-- Is there room? -/
def roomB (Q : QS) (s : Int) : Bool := decide (0 ≤ s ∧ Q.L.length < Q.items ∧ s ≤ (Q.bound : Int) - (sumQ Q.L : Int))

theorem room_is (s : Int) {w : World} {p : Nat} {r : Nat → Nat} {Q : QS} {rv : Value} {f n : Nat} {xs : List Value} (h : IsQ w p r Q rv f n xs) :
    Calls Try.prog 46 #[.pointer (some ⟨p, 0, none⟩), .int .i64 s] w fun e w' => e = .returned (.bool (roomB Q s)) ∧ ∃ n, w' = w.drewN n := by
  have c2 := h.c2
  have c3 := h.c3
  have c4 := h.c4
  have c5 := h.c5
  have hs := h.sum
  have hb := h.bound
  have hi := h.items
  have hf := h.few
  unfold roomB
  clear h
  generalize Q.L.length = many at *
  generalize sumQ Q.L = sum at *
  generalize Q.items = items at *
  generalize Q.bound = bound at *
  have i1 : IntKind.i64.wrap ((bound : Int) - (sum : Int)) = (bound : Int) - (sum : Int) := IntWalk.i64_in _ (by omega)
  by_cases h0 : 0 ≤ s
  · by_cases h1 : many < items
    · by_cases h2 : s ≤ (bound : Int) - (sum : Int)
      · rw [decide_eq_true ⟨h0, h1, h2⟩]
        have j1 : (many : Int) < (items : Int) := by omega
        go_enter Try.func46, Try.ntmps46
        go_wp2_with fail
        go_quiet (fail)
        go_wp2_with fail
        go_ret
        exact ⟨rfl, _, rfl⟩
      · rw [decide_eq_false (fun h => h2 h.2.2)]
        have j1 : (many : Int) < (items : Int) := by omega
        have j2 : decide (s ≤ (bound : Int) - (sum : Int)) = false := decide_eq_false h2
        go_enter Try.func46, Try.ntmps46
        go_wp2_with fail
        go_quiet (fail)
        go_wp2_with fail
        go_ret
        exact ⟨rfl, _, rfl⟩
    · rw [decide_eq_false (fun h => h1 h.2.1)]
      have j1 : decide (many < items) = false := decide_eq_false h1
      have j2 : decide ((many : Int) < (items : Int)) = false := decide_eq_false (by omega)
      go_enter Try.func46, Try.ntmps46
      go_wp2_with fail
      go_quiet (fail)
      go_wp2_with fail
      go_ret
      exact ⟨rfl, _, rfl⟩
  · rw [decide_eq_false (fun h => h0 h.1)]
    have j1 : decide (0 ≤ s) = false := decide_eq_false h0
    go_enter Try.func46, Try.ntmps46
    go_wp2_with fail
    go_quiet (fail)
    go_wp2_with fail
    go_ret
    exact ⟨rfl, _, rfl⟩

theorem place_is (i : Nat) {w : World} {p : Nat} {g c f n : Nat} (c0 : w.cell? ⟨p, 0, none⟩ = some (.slice (some ⟨g, 0, none⟩) n c)) (c1 : w.cell? ⟨p, 1, none⟩ = some (.int .i64 f)) (hf : f < n) (hn : n ≤ 200000) (hi : i ≤ 200000) :
    Calls Try.prog 49 #[.pointer (some ⟨p, 0, none⟩), .int .i64 i] w fun e w' => e = .returned (.pointer (some ⟨g, (f + i) % n * 3, none⟩)) ∧ ∃ n, w' = w.drewN n := by
  have i4 : (0 : Int) ≤ ((f : Int) + (i : Int)) % (n : Int) := Int.emod_nonneg _ (by omega)
  have i5 : ((f : Int) + (i : Int)) % (n : Int) < (n : Int) := Int.emod_lt_of_pos _ (by omega)
  have i6 : (0 : Int) < (n : Int) := by omega
  go_enter Try.func49, Try.ntmps49
  go_wp2_with fail
  go_quiet (fail)
  go_wp2_with fail
  go_ret
  exact ⟨rfl, _, rfl⟩
end Go.Proofs.Ythipfcmjpgbemaa

/- An item's copy; the iterator's value: walked. -/
namespace Go.Proofs.Ythipfcmjpgbemaa
open Go.RowKit

theorem own_lower {w : World} {base base' : Nat} {e : TypeId} {size : Nat} {v : Value} {n : Nat} {xs : List Value} (h : w.ownsRow base e size v n xs) (hb : base' ≤ base) : w.ownsRow base' e size v n xs := by
  refine ⟨h.1, ?_⟩
  rcases h.2 with hn | ⟨g, cap, cur, hv, hg, rest⟩
  · exact .inl hn
  · exact .inr ⟨g, cap, cur, hv, Nat.le_trans hb hg, rest⟩
theorem own_ge {w : World} {base : Nat} {e : TypeId} {size : Nat} {v : Value} {n : Nat} {xs : List Value} (h : w.ownsRow base e size v n xs) : ∀ k, v.ownBlock = some k → base ≤ k := by
  intro k hk
  rcases h.2 with ⟨hv, _⟩ | ⟨g, cap, cur, hv, hg, _⟩
  · rw [hv] at hk; cases hk
  · rw [hv] at hk; injection hk with hk; subst hk; exact hg
theorem own_lt {w : World} {base : Nat} {e : TypeId} {size : Nat} {v : Value} {n : Nat} {xs : List Value} (h : w.ownsRow base e size v n xs) : ∀ k, v.ownBlock = some k → k < w.heap.size := by
  intro k hk
  rcases h.2 with ⟨hv, _⟩ | ⟨g, cap, cur, hv, _, hh, _⟩
  · rw [hv] at hk; cases hk
  · rw [hv] at hk; injection hk with hk; subst hk; exact lt_of_obj hh
theorem own_below {w w' : World} {base : Nat} {v : Value} {zs : List Nat} (h : Own8 w base v zs) (hB : Below w.heap.size w w') : Own8 w' base v zs := own_only h (Below.only hB (fun _ => False)) (fun _ _ h => h)

set_option maxRecDepth 100000 in
theorem copied_is (no : Nat) (sz : Int) (y : Value) (d : List Nat) (w : World) (hy : Holds8 w y d) (hd : d.length ≤ 1000000) :
    Calls Try.prog 48 #[.agg #[.int .u64 no, .int .i64 sz, y]] w fun e w' => ∃ v, e = .returned (.agg #[.int .u64 no, .int .i64 sz, v]) ∧ Own8 w' w.heap.size v d ∧ Below w.heap.size w w' := by
  obtain ⟨ao, cap, hyv, _⟩ := id hy
  rw [hyv] at hy ⊢
  clear hyv
  go_enter Try.func48, Try.ntmps48
  go_wp2_with fail
  have hB0 : Below w.heap.size w ((w.alloc (.cells #[.int .u64 no, .int .i64 sz, .slice ao d.length cap] 34)).alloc (.cells #[.int .u64 0, .int .i64 0, .slice none 0 0] 34)) := ((Below.refl _ _).alloc (Nat.le_refl _) _).alloc (by simp) _
  have hG1 : ((w.alloc (.cells #[.int .u64 no, .int .i64 sz, .slice ao d.length cap] 34)).alloc (.cells #[.int .u64 0, .int .i64 0, .slice none 0 0] 34)).heap[w.heap.size]? = some (.cells #[.int .u64 no, .int .i64 sz, .slice ao d.length cap] 34 (0, 0)) := (alloc_block_old _ (by simp)).trans (alloc_block_new w _)
  have hG2 : ((w.alloc (.cells #[.int .u64 no, .int .i64 sz, .slice ao d.length cap] 34)).alloc (.cells #[.int .u64 0, .int .i64 0, .slice none 0 0] 34)).heap[w.heap.size + 1]? = some (.cells #[.int .u64 0, .int .i64 0, .slice none 0 0] 34 (0, 0)) := alloc_block_at _ _ (by simp)
  refine (clone_any _ d _ (hy.below hB0) (by omega)).mono ?_
  rintro e w4 ⟨v, rfl, ho, hB4⟩
  obtain ⟨av, cv, hav⟩ := own_shape ho
  rw [hav]
  have hs := hB0.size
  have h41 := (hB4.block w.heap.size (lt_of_obj hG1)).trans hG1
  have h42 := (hB4.block (w.heap.size + 1) (lt_of_obj hG2)).trans hG2
  generalize hg1 : w.heap.size = g1 at *
  generalize hg2 : g1 + 1 = g2 at *
  have hne : ¬ g1 = g2 := by omega
  have hne' : ¬ g2 = g1 := by omega
  have l2 := lt_of_obj hG2
  have l1 := lt_of_obj hG1
  rw [hav] at ho
  have HO := Lib.hid ho
  have HB := Lib.hid (hB0.trans (hB4.mono hs))
  have HL := Lib.hid (show g2 < ((w.alloc (.cells #[.int .u64 no, .int .i64 sz, .slice ao d.length cap] 34)).alloc (.cells #[.int .u64 0, .int .i64 0, .slice none 0 0] 34)).heap.size from l2)
  have k0 : w4.cell? ⟨g1, 0, none⟩ = _ := cell_of_block h41 0
  have k1 : w4.cell? ⟨g1, 1, none⟩ = _ := cell_of_block h41 1
  have k2 : w4.cell? ⟨g1, 2, none⟩ = _ := cell_of_block h41 2
  have m0 : w4.cell? ⟨g2, 0, none⟩ = _ := cell_of_block h42 0
  have m1 : w4.cell? ⟨g2, 1, none⟩ = _ := cell_of_block h42 1
  have m2 : w4.cell? ⟨g2, 2, none⟩ = _ := cell_of_block h42 2
  have f0 := free_of_block h41 2
  have f1 := free_of_block h42 0
  have f2 := free_of_block h42 1
  have f3 := free_of_block h42 2
  dsimp at k0 k1 k2 m0 m1 m2
  have HG1 := Lib.hid hg1
  have HG2 := Lib.hid hg2
  have HS := Lib.hid hs
  clear hB0 hG1 hG2 hB4 h41 h42 ho hy hg1 hg2 l1 l2 hs hav
  go_wp2_with fail
  have hgw := HG1.out
  have hgw2 := HG2.out
  have hO5 : Only (fun k => k = g1 ∨ k = g2) w4 ((((w4.setCell ⟨g1, 2, none⟩ (.slice av d.length cv)).setCell ⟨g2, 0, none⟩ (.int .u64 no)).setCell ⟨g2, 1, none⟩ (.int .i64 sz)).setCell ⟨g2, 2, none⟩ (.slice av d.length cv)) :=
    Only.setCell (p := ⟨g2, 2, none⟩) (Only.setCell (p := ⟨g2, 1, none⟩) (Only.setCell (p := ⟨g2, 0, none⟩) (Only.setCell (p := ⟨g1, 2, none⟩) (Only.refl _ w4) (fun _ => .inl rfl) _) (fun _ => .inr rfl) _) (fun _ => .inr rfl) _) (fun _ => .inr rfl) _
  have hown := own_only HO.out hO5 (fun k hk e => by have := own_ge HO.out k hk; have := HL.out; omega)
  have hBf := HB.out.trans (hO5.below (B := g1) (by have := HB.out.size; omega) (fun k hk e => by omega))
  have r0 : ((((w4.setCell ⟨g1, 2, none⟩ (.slice av d.length cv)).setCell ⟨g2, 0, none⟩ (.int .u64 no)).setCell ⟨g2, 1, none⟩ (.int .i64 sz)).setCell ⟨g2, 2, none⟩ (.slice av d.length cv)).cell? ⟨g2, 0, none⟩ = some (.int .u64 no) := by simp [go_sem, m0, m1, m2, hne, hne']
  have r1 : ((((w4.setCell ⟨g1, 2, none⟩ (.slice av d.length cv)).setCell ⟨g2, 0, none⟩ (.int .u64 no)).setCell ⟨g2, 1, none⟩ (.int .i64 sz)).setCell ⟨g2, 2, none⟩ (.slice av d.length cv)).cell? ⟨g2, 1, none⟩ = some (.int .i64 sz) := by simp [go_sem, m0, m1, m2, hne, hne']
  have r2 : ((((w4.setCell ⟨g1, 2, none⟩ (.slice av d.length cv)).setCell ⟨g2, 0, none⟩ (.int .u64 no)).setCell ⟨g2, 1, none⟩ (.int .i64 sz)).setCell ⟨g2, 2, none⟩ (.slice av d.length cv)).cell? ⟨g2, 2, none⟩ = some (.slice av d.length cv) := by simp [go_sem, m0, m1, m2, hne, hne']
  have hs := HS.out
  generalize (((w4.setCell ⟨g1, 2, none⟩ (.slice av d.length cv)).setCell ⟨g2, 0, none⟩ (.int .u64 no)).setCell ⟨g2, 1, none⟩ (.int .i64 sz)).setCell ⟨g2, 2, none⟩ (.slice av d.length cv) = w5 at *
  exact bodyPost_ret (v := .agg #[.int .u64 no, .int .i64 sz, .slice av d.length cv]) (by simp [results, Try.results48, go_sem, r0, r1, r2]) rfl ⟨_, rfl, by rw [hgw]; exact own_lower hown hs, by rw [hgw]; exact hBf⟩

theorem all_is (p : Nat) (w : World) :
    Calls Try.prog 56 #[.pointer (some ⟨p, 0, none⟩)] w fun e w' => e = .returned (.func (.func 67) #[] #[.pointer (some ⟨w.heap.size, 0, none⟩)]) ∧ w' = w.alloc (.cells #[.pointer (some ⟨p, 0, none⟩)] 74) := by
  go_enter Try.func56, Try.ntmps56
  go_wp2_with fail
  go_ret
  exact ⟨rfl, rfl⟩
end Go.Proofs.Ythipfcmjpgbemaa

/- All: a range over the queue's own iterator. -/
namespace Go.Proofs.Ythipfcmjpgbemaa
open Go.RowKit

/-- Items in new memory. -/
structure NewI (base : Nat) (w : World) (F : Nat → Prop) (v : Value) (xs : List Value) (L : List It) : Prop where
  row : w.ownsRow base 34 3 v L.length xs
  cs : ∀ i x, L[i]? = some x → ∃ y, ItAt w F xs (i * 3) x y
  ge : ∀ k, F k → base ≤ k
  ft : ∀ k, F k → ∃ c, w.heap[k]? = some (.cells c 5 (0, 0))
  dj : ∀ i j yi yj, i < j → j < L.length → xs[i * 3 + 2]? = some yi → xs[j * 3 + 2]? = some yj → ∀ k, yi.ownBlock = some k → ¬ yj.ownBlock = some k

theorem row_type {w : World} {base : Nat} {e : TypeId} {size : Nat} {v : Value} {n : Nat} {xs : List Value} (h : w.ownsRow base e size v n xs) : ∀ k, v.ownBlock = some k → ∃ c, w.heap[k]? = some (.cells c e (0, 0)) := by
  intro k hk
  rcases h.2 with ⟨hv, _⟩ | ⟨g, cap, cur, hv, _, hh, _⟩
  · rw [hv] at hk; cases hk
  · rw [hv] at hk; injection hk with hk; subst hk; exact ⟨_, hh⟩

theorem NewI.keep {base : Nat} {w w' : World} {F S : Nat → Prop} {v : Value} {xs : List Value} {L : List It} (h : NewI base w F v xs L) (hO : Only S w w') (hF : ∀ k, F k → ¬ S k) (hv : ∀ k, v.ownBlock = some k → ¬ S k) : NewI base w' F v xs L :=
  ⟨own_only h.row hO hv, fun i x hx => let ⟨y, hy⟩ := h.cs i x hx; ⟨y, hy.keep hO hF⟩, h.ge, fun k hk => let ⟨c, hc⟩ := h.ft k hk; ⟨c, hO.keep hc (hF k hk)⟩, h.dj⟩
theorem NewI.below {base : Nat} {w w' : World} {F : Nat → Prop} {v : Value} {xs : List Value} {L : List It} (h : NewI base w F v xs L) (hB : Below w.heap.size w w') : NewI base w' F v xs L :=
  h.keep (Below.only hB (fun _ => False)) (fun _ _ h => h) (fun _ _ h => h)
/-- Behind a change of one block that holds something else. -/
theorem NewI.other {base : Nat} {w w' : World} {F : Nat → Prop} {v : Value} {xs : List Value} {L : List It} (h : NewI base w F v xs L) {b : Nat} {o : Obj} (ho : w.heap[b]? = some o) (h1 : ∀ c, o ≠ .cells c 5 (0, 0)) (h2 : ∀ c, o ≠ .cells c 34 (0, 0)) (hO : Only (· = b) w w') : NewI base w' F v xs L := by
  refine h.keep hO (fun k hk e => ?_) (fun k hk e => ?_)
  · obtain ⟨c, hc⟩ := h.ft k hk
    subst e
    rw [ho] at hc
    injection hc with hc
    exact h1 c hc
  · obtain ⟨c, hc⟩ := row_type h.row k hk
    subst e
    rw [ho] at hc
    injection hc with hc
    exact h2 c hc
theorem NewI.ne_row {base : Nat} {w : World} {F : Nat → Prop} {v : Value} {xs : List Value} {L : List It} (h : NewI base w F v xs L) {b : Nat} {o : Obj} (ho : w.heap[b]? = some o) (h2 : ∀ c, o ≠ .cells c 34 (0, 0)) : ¬ v.ownBlock = some b := fun e => by
  obtain ⟨c, hc⟩ := row_type h.row b e
  rw [ho] at hc
  injection hc with hc
  exact h2 c hc
/-- Of bytes likewise. -/
theorem own8_other {w w' : World} {base : Nat} {v : Value} {zs : List Nat} (h : Own8 w base v zs) {b : Nat} {o : Obj} (ho : w.heap[b]? = some o) (h1 : ∀ c, o ≠ .cells c 5 (0, 0)) (hO : Only (· = b) w w') : Own8 w' base v zs := by
  refine own_only h hO (fun k hk e => ?_)
  obtain ⟨c, hc⟩ := row_type h k hk
  subst e
  rw [ho] at hc
  injection hc with hc
  exact h1 c hc

/-- One more. -/
theorem NewI.snoc {base : Nat} {w w5 : World} {F : Nat → Prop} {v v2 y : Value} {xs : List Value} {L : List It} (h : NewI base w F v xs L) (x : It) (hy : Own8 w base y x.data) (hyF : ∀ k, y.ownBlock = some k → ¬ F k)
    (hOW : w5.ownsRow base 34 3 v2 (L.length + 1) (xs ++ [.int .u64 x.no, .int .i64 x.size, y])) (hG : w.grownBy w5 v.ownBlock) : NewI base w5 (fun k => F k ∨ y.ownBlock = some k) v2 (xs ++ [.int .u64 x.no, .int .i64 x.size, y]) (L ++ [x]) := by
  have hO : Only (fun k => v.ownBlock = some k) w w5 := (Only.refl _ _).grown hG (fun k hk _ => hk)
  have hd : ∀ k c, w.heap[k]? = some (.cells c 5 (0, 0)) → ¬ v.ownBlock = some k := fun k c hc hk => by
    obtain ⟨c', hc'⟩ := row_type h.row k hk
    rw [hc] at hc'
    injection hc' with hc'
    injection hc' with _ e _
    exact absurd e (by decide)
  have hF : ∀ k, F k → ¬ v.ownBlock = some k := fun k hk => let ⟨c, hc⟩ := h.ft k hk; hd k c hc
  have hY : ∀ k, y.ownBlock = some k → ¬ v.ownBlock = some k := fun k hk => let ⟨c, hc⟩ := row_type hy k hk; hd k c hc
  have hxl : xs.length = L.length * 3 := h.row.1
  refine ⟨by simpa using hOW, fun i z hz => ?_, ?_, ?_, ?_⟩
  · by_cases hi : i < L.length
    · rw [List.getElem?_append_left hi] at hz
      obtain ⟨u, hu⟩ := h.cs i z hz
      have hu' := hu.keep hO hF
      exact ⟨u, by rw [List.getElem?_append_left (by omega)]; exact hu'.c0, by rw [List.getElem?_append_left (by omega)]; exact hu'.c1, by rw [List.getElem?_append_left (by omega)]; exact hu'.c2, hu'.d, fun k hk => .inl (hu'.f k hk)⟩
    · have hin : i = L.length := by
        have := (List.getElem?_eq_some_iff.1 hz).1
        simp at this
        omega
      subst hin
      rw [List.getElem?_append_right (by omega), Nat.sub_self] at hz
      simp at hz
      subst hz
      refine ⟨y, ?_, ?_, ?_, own_lower (own_only hy hO hY) (Nat.zero_le _), fun k hk => .inr hk⟩
      · rw [List.getElem?_append_right (by omega), hxl, Nat.sub_self]; rfl
      · rw [List.getElem?_append_right (by omega), hxl, show L.length * 3 + 1 - L.length * 3 = 1 by omega]; rfl
      · rw [List.getElem?_append_right (by omega), hxl, show L.length * 3 + 2 - L.length * 3 = 2 by omega]; rfl
  · rintro k (hk | hk)
    · exact h.ge k hk
    · exact own_ge hy k hk
  · rintro k (hk | hk)
    · obtain ⟨c, hc⟩ := h.ft k hk
      exact ⟨c, hO.keep hc (hF k hk)⟩
    · obtain ⟨c, hc⟩ := row_type hy k hk
      exact ⟨c, hO.keep hc (hY k hk)⟩
  · intro i j yi yj hij hj hi hjj k hk
    simp only [List.length_append, List.length_cons, List.length_nil] at hj
    rw [List.getElem?_append_left (by omega)] at hi
    by_cases hjl : j < L.length
    · rw [List.getElem?_append_left (by omega)] at hjj
      exact h.dj i j yi yj hij hjl hi hjj k hk
    · obtain rfl : j = L.length := by omega
      rw [List.getElem?_append_right (by omega), hxl, show L.length * 3 + 2 - L.length * 3 = 2 by omega] at hjj
      simp at hjj
      subst hjj
      obtain ⟨u, hu⟩ := h.cs i L[i] (List.getElem?_eq_getElem hij)
      have e := hu.c2
      rw [hi] at e
      injection e with e
      subst e
      exact fun e => hyF k e (hu.f k hk)

/-- A code's first range over a function: what is assigned, and the body. -/
def rangeOf : Code → Option (Code × Code)
  | .seq a b => (rangeOf a).or (rangeOf b)
  | .cond _ a b => (rangeOf a).or (rangeOf b)
  | .block _ a => rangeOf a
  | .loop a => rangeOf a
  | .scope a => rangeOf a
  | .rangeFunc _ _ a b => some (a, b)
  | _ => none
noncomputable def allAssign : Code := ((Try.f33.body.bind rangeOf).map (·.1)).getD .skip
noncomputable def allBody : Code := ((Try.f33.body.bind rangeOf).map (·.2)).getD .skip

/-- The loop's record: All's temporaries as they stood at the entering. -/
noncomputable def allRec (fn : FuncId) (p Bs Bq D : Nat) (st : LoopState) (pend : Option Code) : Loop :=
  { state := st, pending := pend, fn, tmps := #[.pointer (some ⟨p, 0, none⟩), undef, .slice none 0 0, .pointer (some ⟨Bs, 0, none⟩), undef, .pointer (some ⟨p, 0, none⟩), .bool false, .pointer (some ⟨p, 0, none⟩), .func (.func 67) #[] #[.pointer (some ⟨Bq, 0, none⟩)], undef, undef, undef, undef, undef, undef],
    params := #[9], assign := allAssign, body := allBody, defers := D }

/-- Between two rounds: the box holds a slice that owns what has come so far; nothing that lay before the call has turned. -/
structure AAt (w0 : World) (fn : FuncId) (p Bs Bq l D : Nat) (L : List It) (m : Nat) (W : World) : Prop where
  box : ∃ v xs F, W.heap[Bs]? = some (.cells #[v] 49 (0, 0)) ∧ NewI w0.heap.size W F v xs L ∧ ∀ k, F k → k < m
  L : W.heap[l]? = some (.loop (allRec fn p Bs Bq D .ready none))
  K : W.heap[D]? = some (.deferred (some []))
  below : Below w0.heap.size w0 W
  q : W.heap[Bq]? = some (.cells #[.pointer (some ⟨p, 0, none⟩)] 74 (0, 0))

theorem AAt.later {w0 : World} {fn : FuncId} {p Bs Bq l D : Nat} {L : List It} {m : Nat} {W W' : World} (h : AAt w0 fn p Bs Bq l D L m W) (hB : Below W.heap.size W W') : AAt w0 fn p Bs Bq l D L m W' := by
  obtain ⟨v, xs, F, hv, hN, hm⟩ := h.box
  have hO := Below.only hB (fun _ => False)
  exact ⟨⟨v, xs, F, hO.keep hv (fun h => h), hN.below hB, hm⟩, hO.keep h.L (fun h => h), hO.keep h.K (fun h => h), h.below.trans (hB.mono h.below.size), hO.keep h.q (fun h => h)⟩

/-- All lie in the memory as it is. -/
theorem AAt.now {w0 : World} {fn : FuncId} {p Bs Bq l D : Nat} {L : List It} {m : Nat} {W : World} (h : AAt w0 fn p Bs Bq l D L m W) : AAt w0 fn p Bs Bq l D L W.heap.size W := by
  obtain ⟨v, xs, F, hv, hN, hm⟩ := h.box
  exact ⟨⟨v, xs, F, hv, hN, fun k hk => let ⟨_, hc⟩ := hN.ft k hk; lt_of_obj hc⟩, h.L, h.K, h.below, h.q⟩

theorem Only.putObj (w : World) (l : Nat) (o : Obj) : Only (· = l) w (w.putObj l o) := ⟨rfl, rfl, rfl, by simp, fun _ _ hk => World.putObj_heap_other hk⟩

theorem info_item : (Try.prog.info? 34).map (fun i => (i.zero, i.size, i.bytes)) = some (some (.agg #[.int .u64 0, .int .i64 0, .slice none 0 0]), 3, 40) := by kernel_rfl

theorem setCell_box {W : World} {B : Nat} {v : Value} {t : TypeId} (v' : Value) (h : W.heap[B]? = some (.cells #[v] t (0, 0))) : (W.setCell ⟨B, 0, none⟩ v').heap[B]? = some (.cells #[v'] t (0, 0)) ∧ Only (· = B) W (W.setCell ⟨B, 0, none⟩ v') := by
  rw [setCell_eq_setRow W B 0 _ t (0, 0) v' h]
  have := stored_setRow (cs := (#[v] : Array Value).setIfInBounds 0 v') h
  exact ⟨this.blk, this.only⟩

set_option maxRecDepth 100000 in
set_option maxHeartbeats 2000000 in
theorem ayield (m : Nat) (w0 : World) (fn : FuncId) (p Bs Bq l D : Nat) (hqs : Bq ≠ Bs) (hql : Bq ≠ l) (hBl : Bs ≠ l) (hDl : D ≠ l) (hDB : D ≠ Bs) (h0B : w0.heap.size ≤ Bs) (h0l : w0.heap.size ≤ l) (L : List It) (x : It) (y : Value) (W : World)
    (mb : Nat) (h : AAt w0 fn p Bs Bq l D L mb W) (hy : Own8 W w0.heap.size y x.data) (hym : ∀ k, y.ownBlock = some k → mb ≤ k) (hlen : L.length ≤ 200000) :
    YieldAt Fence.wide m Try.prog l #[.agg #[.int .u64 x.no, .int .i64 x.size, y]] W fun e W' => e = .returned (.bool true) ∧ AAt w0 fn p Bs Bq l D (L ++ [x]) W'.heap.size W' := by
  obtain ⟨i0, hi, hz0, hz1, hz2⟩ := info_parts info_item
  obtain ⟨ya, yc, ey⟩ := own_shape hy
  refine ⟨fn, #[.pointer (some ⟨p, 0, none⟩), undef, .slice none 0 0, .pointer (some ⟨Bs, 0, none⟩), undef, .pointer (some ⟨p, 0, none⟩), .bool false, .pointer (some ⟨p, 0, none⟩), .func (.func 67) #[] #[.pointer (some ⟨Bq, 0, none⟩)], .agg #[.int .u64 x.no, .int .i64 x.size, y], undef, undef, undef, undef, undef], allAssign, allBody, by simpa [allRec] using run_yield (P := Try.prog) (args := #[.agg #[.int .u64 x.no, .int .i64 x.size, y]]) h.L rfl, roundIn_of_wpIn trivial ?_⟩
  have ea : allAssign = Code.region _ _ _ := rfl
  rw [ea]
  clear ea
  have h1 := h.later ((Below.refl _ _).alloc (Nat.le_refl _) (.cells #[.int .u64 x.no, .int .i64 x.size, .slice ya x.data.length yc] 34))
  have hy1 := own_below hy ((Below.refl _ _).alloc (Nat.le_refl _) (.cells #[.int .u64 x.no, .int .i64 x.size, .slice ya x.data.length yc] 34))
  have hg1 := alloc_block_new W (.cells #[.int .u64 x.no, .int .i64 x.size, .slice ya x.data.length yc] 34)
  rw [ey] at hy1 hym ⊢
  have HYM := Lib.hid hym
  clear h hy hym ey
  gi_wp2_with (rw [Oper.semAt_eq _ _ _ (fun c h => by cases h)]; go_simp; try go_bits)
  obtain ⟨g, eg⟩ : ∃ g, W.heap.size = g := ⟨_, rfl⟩
  rw [eg] at hg1
  rw [show (some (⟨W.heap.size, 0, none⟩ : Addr)) = some ⟨g, 0, none⟩ by rw [eg]]
  generalize W.alloc (.cells #[.int .u64 x.no, .int .i64 x.size, .slice ya x.data.length yc] 34) = W1 at *
  clear eg
  obtain ⟨v, xs, F, hv, hN, hFm⟩ := h1.box
  have HFM := Lib.hid hFm
  clear hFm
  have hl : l < W1.heap.size := lt_of_obj h1.L
  have hbr := run_beginRound (P := Try.prog) h1.L rfl
  have hP := Only.putObj W1 l (.loop { allRec fn p Bs Bq D .ready none with state := .busy })
  have hL2 := World.putObj_heap_same (o := .loop { allRec fn p Bs Bq D .ready none with state := .busy }) hl
  have hN2 := hN.other h1.L (fun c e => by cases e) (fun c e => by cases e) hP
  have hy2 := own8_other hy1 h1.L (fun c e => by cases e) hP
  have hgl : g ≠ l := fun e => by subst e; rw [h1.L] at hg1; cases hg1
  have hg2 := hP.keep hg1 hgl
  have hv2 := hP.keep hv hBl
  have hK2 := hP.keep h1.K hDl
  have hq2 := hP.keep h1.q hql
  have hb2 : Below w0.heap.size w0 _ := h1.below.trans (hP.below h1.below.size (fun k hk e => by omega))
  refine ⟨_, hbr, ?_⟩
  generalize W1.putObj l (.loop { allRec fn p Bs Bq D .ready none with state := .busy }) = W2 at *
  have HL2 := Lib.hid hL2
  have HN2 := Lib.hid hN2
  have HY2 := Lib.hid hy2
  have HV2 := Lib.hid hv2
  have HK2 := Lib.hid hK2
  have HQ2 := Lib.hid hq2
  have HB2 := Lib.hid hb2
  have c0 : W2.cell? ⟨Bs, 0, none⟩ = some v := cell_of_block hv2 0
  have x0 : W2.cell? ⟨g, 0, none⟩ = _ := cell_of_block hg2 0
  have x1 : W2.cell? ⟨g, 1, none⟩ = _ := cell_of_block hg2 1
  have x2 : W2.cell? ⟨g, 2, none⟩ = _ := cell_of_block hg2 2
  dsimp at x0 x1 x2
  have hl2 := lt_of_obj hL2
  have hB2lt := lt_of_obj hv2
  have hD2 := lt_of_obj hK2
  clear hL2 hN2 hy2 hv2 hK2 hq2 hb2 hbr h1 hN hv hP hg1 hg2 hgl hl hy1
  have eb : allBody = Code.block _ (Code.region _ _ _) := rfl
  rw [eb]
  clear eb
  gi_wp2_with (first
    | (gi_at_builtin; refine wpListIn_append_own _ rfl _ _ 49 rfl w0.heap.size 34 i0 (.agg #[.int .u64 0, .int .i64 0, .slice none 0 0]) 3 40 Try.underlying49 hi hz0 hz1 hz2 rfl (by decide) _ _ _ rfl (HN2.out.row.alloc _) ⟨W2.heap.size, 0, none⟩ 1 1 [.int .u64 x.no, .int .i64 x.size, .slice ya x.data.length yc] rfl rfl (three_new _ _ _ _ _) (by intro u hu; simp at hu; rcases hu with rfl | rfl | rfl <;> rfl) (by unfold maxLen; omega) (by omega) (by have := HB2.out.size; simp; omega) ?_; intro v' w3 hown' hg3 _
       have hA := (Below.refl W2.heap.size W2).alloc (Nat.le_refl _) (.cells #[.int .u64 x.no, .int .i64 x.size, .slice ya x.data.length yc] 34)
       have hg3' : (W2.alloc (.cells #[.int .u64 x.no, .int .i64 x.size, .slice ya x.data.length yc] 34)).grownBy w3 v.ownBlock := hg3
       have HN3 := Lib.hid ((HN2.out.below hA).snoc x (own_below HY2.out hA) (fun k hk hf => by have := HYM.out k hk; have := HFM.out k hf; omega) hown' hg3')
       obtain ⟨av2, cv2, rfl⟩ := own_shape hown'
       have hO3 : Only (fun k => v.ownBlock = some k) W2 w3 := (Below.only hA _).trans ((Only.refl _ _).grown hg3' (fun k hk _ => hk))
       have hv3 := hO3.keep HV2.out (HN2.out.ne_row HV2.out (fun c e => by injection e with _ e _; exact absurd e (by decide)))
       have c3 : w3.cell? ⟨Bs, 0, none⟩ = some v := cell_of_block hv3 0
       have f3 : w3.frozen? ⟨Bs, 0, none⟩ = false := free_of_block hv3 0
       have HO3 := Lib.hid hO3
       have HV3 := Lib.hid hv3
       clear hg3 hg3' hown' hA hO3 hv3
       simp only [Act.put, List.setIfInBounds_toArray, List.set_cons_succ, List.set_cons_zero])
    | (rw [Oper.semAt_eq _ _ _ (fun c h => by cases h)]; go_simp; try go_bits))
  obtain ⟨hv4, hO4⟩ := setCell_box (.slice av2 (L.length + 1) cv2) HV3.out
  have hN4 := HN3.out.other HV3.out (fun c e => by injection e with _ e _; exact absurd e (by decide)) (fun c e => by injection e with _ e _; exact absurd e (by decide)) hO4
  have hL4 := hO4.keep (HO3.out.keep HL2.out (HN2.out.ne_row HL2.out (fun c e => by cases e))) (fun e => hBl e.symm)
  have hK4 := hO4.keep (HO3.out.keep HK2.out (HN2.out.ne_row HK2.out (fun c e => by cases e))) hDB
  have hq4 := hO4.keep (HO3.out.keep HQ2.out (HN2.out.ne_row HQ2.out (fun c e => by injection e with _ e _; exact absurd e (by decide)))) hqs
  have hb4 : Below w0.heap.size w0 _ := (HB2.out.trans (HO3.out.below HB2.out.size (fun k hk e => by have := own_ge HN2.out.row k e; omega))).trans (hO4.below (Nat.le_trans HB2.out.size HO3.out.size) (fun k hk e => by omega))
  generalize w3.setCell ⟨Bs, 0, none⟩ (.slice av2 (L.length + 1) cv2) = w4 at *
  have hP := Only.putObj w4 l (.loop { { allRec fn p Bs Bq D .ready none with state := .busy } with state := if (none : Option Code).isNone then .ready else .done, pending := none })
  have hN5 := hN4.other hL4 (fun c e => by cases e) (fun c e => by cases e) hP
  refine ⟨_, _, run_endRound none hL4, rfl, ⟨_, _, _, hP.keep hv4 hBl, hN5, fun k hk => let ⟨_, hc⟩ := hN5.ft k hk; lt_of_obj hc⟩, World.putObj_heap_same (lt_of_obj hL4), hP.keep hK4 hDl, hb4.trans (hP.below hb4.size (fun k hk e => by omega)), hP.keep hq4 hql⟩

/-- At the head of a round of the iterator's. -/
def ARel (w0 : World) (fn : FuncId) (p Bs Bq l D : Nat) (L : List It) (i : Value) (wr : World) : Prop :=
  ∃ k : Nat, i = .int .i64 k ∧ k ≤ L.length ∧ AAt w0 fn p Bs Bq l D (L.take k) wr.heap.size wr

theorem row_cell {w : World} {base : Nat} {e : TypeId} {v : Value} {n : Nat} {xs : List Value} (h : w.ownsRow base e 3 v n xs) (hn : 0 < n) : ∃ g cap, v = .slice (some ⟨g, 0, none⟩) n cap ∧ g < w.heap.size ∧ n ≤ cap ∧ ∀ j, j < n * 3 → w.cell? ⟨g, j, none⟩ = xs[j]? := by
  rcases h.2 with ⟨_, h0⟩ | ⟨g, cap, cur, hv, hg, hh, hnc, hcm, hcs, hx⟩
  · omega
  · refine ⟨g, cap, hv, lt_of_obj hh, hnc, fun j hj => ?_⟩
    rw [cell_of_block hh, ← hx, List.getElem?_take_of_lt hj]
    simp

set_option maxRecDepth 100000 in
set_option maxHeartbeats 2000000 in
theorem all1 (w0 : World) (fn : FuncId) (p Bs Bq l D : Nat) (hqs : Bq ≠ Bs) (hql : Bq ≠ l) (hBl : Bs ≠ l) (hDl : D ≠ l) (hDB : D ≠ Bs) (h0B : w0.heap.size ≤ Bs) (h0l : w0.heap.size ≤ l) {r : Nat → Nat} {Q : QS} {rv : Value} {f n : Nat} {xs : List Value} (hQ : IsQ w0 p r Q rv f n xs) (W : World)
    (mb : Nat) (h : AAt w0 fn p Bs Bq l D [] mb W) (m : Nat) (hm : 1 ≤ m) :
    CallsIn Fence.wide m Try.prog 67 #[.func (.yield l) #[] #[], .pointer (some ⟨Bq, 0, none⟩)] W fun e W' => (∃ v, e = .returned v) ∧ AAt w0 fn p Bs Bq l D Q.L W'.heap.size W' := by
  have hQW := hQ.below h.below
  have c2 := hQW.c2
  have hq : W.cell? ⟨Bq, 0, none⟩ = some (.pointer (some ⟨p, 0, none⟩)) := cell_of_block h.q 0
  have HQ := Lib.hid hQ
  have H := Lib.hid h
  clear hQW hQ h
  have t1 : Fence.wide.fn 49 := trivial
  have t2 : Fence.wide.fn 48 := trivial
  refine callsIn_of_wp Try.func67 rfl trivial ?_ rfl
  simp only [Try.ntmps67, List.size_toArray, List.length_cons, List.length_nil, Nat.reduceAdd, Nat.reduceSub, Array.replicate_succ, Array.replicate_zero, List.push_toArray, List.append_toArray, List.nil_append, List.cons_append]
  gi_wp2
  gi_loopw [8] (ARel w0 fn p Bs Bq l D Q.L) (fun i _ => Q.L.length - (intOf i).toNat)
  case atStart => exact ⟨0, rfl, Nat.zero_le _, H.out.now⟩
  case round =>
    clear hq c2
    obtain ⟨k, rfl, hk, hA⟩ := hrel
    by_cases hlt : k < Q.L.length
    · obtain ⟨x, hx⟩ : ∃ x, Q.L[k]? = some x := ⟨_, List.getElem?_eq_getElem hlt⟩
      have hQr := HQ.out.below hA.below
      have hroom := hQr.room
      have hcap := hQr.cap
      have hff : f < n := by have := hQr.from_; omega
      obtain ⟨y, hy⟩ := hQr.rc k x hx
      obtain ⟨g, cap, erv, hg, hnc, hcell⟩ := row_cell hQr.ring (by omega)
      have hmod := Nat.mod_lt (f + k) (show 0 < n by omega)
      have x0 := (hcell ((f + k) % n * 3) (by omega)).trans hy.c0
      have x1 := (hcell ((f + k) % n * 3 + 1) (by omega)).trans hy.c1
      have x2 := (hcell ((f + k) % n * 3 + 2) (by omega)).trans hy.c2
      have hd := hQr.data x (List.mem_of_getElem? hx)
      have hy8 := hy.d.holds
      obtain ⟨ya, yc, ey⟩ := own_shape hy.d
      rw [ey] at x2 hy8
      have c0 := hQr.c0
      rw [erv] at c0
      have c1 := hQr.c1
      have hq : wr.cell? ⟨Bq, 0, none⟩ = some (.pointer (some ⟨p, 0, none⟩)) := cell_of_block hA.q 0
      have HA := Lib.hid hA
      have HX := Lib.hid hx
      have HY8 := Lib.hid hy8
      have hk2 : k ≤ 200000 := by omega
      have HLEN := Lib.hid (show (Q.L.take k).length = k by simp; omega)
      clear hA hx hQr hy hy8 hcell ey erv hg hnc hroom hmod
      gi_wp2_with (first
        | (gi_at_call 49; refine (callsIn_wide.2 (place_is k c0 c1 hff hcap hk2)).mono ?_; rintro e w1 ⟨rfl, nd, rfl⟩)
        | (gi_at_call 48; refine (callsIn_wide.2 (copied_is x.no x.size _ x.data _ (HY8.out.below (below_drewN (Below.refl _ _) _)) hd)).mono ?_; rintro e w4 ⟨v, rfl, ho, hB4⟩
           obtain ⟨av, cv, ev⟩ := own_shape ho
           subst ev
           have hA4 := HA.out.later ((below_drewN (Below.refl _ _) nd).trans hB4)
           obtain ⟨fn', tmps', as', bd', hyl, hR⟩ := ayield (m - 1) w0 fn p Bs Bq l D hqs hql hBl hDl hDB h0B h0l (Q.L.take k) x _ w4 _ hA4 (own_lower ho HA.out.below.size) (own_ge ho) (by rw [HLEN.out]; omega)
           have HR := Lib.hid hR
           clear ho hB4 hA4 hR))
      refine HR.out.mono ?_
      rintro e w5 ⟨rfl, hA5⟩
      have htk : Q.L.take (k + 1) = Q.L.take k ++ [x] := by rw [List.take_add_one, HX.out]; rfl
      rw [← htk] at hA5
      have HREL : Hid (ARel w0 fn p Bs Bq l D Q.L (.int .i64 (k + 1 : Nat)) w5) := ⟨k + 1, rfl, by omega, hA5⟩
      clear hA5 htk
      gi_wp2
      go_roundw
      case rel => exact HREL.out
      case measure => simp [intOf]; omega
    · have hkn : k = Q.L.length := by omega
      rw [hkn, List.take_of_length_le (Nat.le_refl _)] at hA
      have HA := Lib.hid hA
      clear hA hkn
      gi_wp2
      go_end0
      exact ⟨⟨_, rfl⟩, HA.out⟩
end Go.Proofs.Ythipfcmjpgbemaa

/- All, walked. -/
namespace Go.Proofs.Ythipfcmjpgbemaa
open Go.RowKit Go.Shelf

theorem all_nil (w : World) : Calls Try.prog 33 #[.pointer none] w fun e w' => e = .returned (.slice none 0 0) ∧ w' = w := by
  go_enter Try.func33, Try.ntmps33
  go_wp2_with fail
  go_ret
  exact ⟨rfl, rfl⟩

set_option maxRecDepth 100000 in
set_option maxHeartbeats 2000000 in
theorem all_items {w : World} {p : Nat} {r : Nat → Nat} {Q : QS} {rv : Value} {f n : Nat} {xs : List Value} (hQ : IsQ w p r Q rv f n xs) :
    Calls Try.prog 33 #[.pointer (some ⟨p, 0, none⟩)] w fun e w' => ∃ v ys F, e = .returned v ∧ NewI w.heap.size w' F v ys Q.L ∧ Below w.heap.size w w' := by
  have HQ := Lib.hid hQ
  clear hQ
  have t1 : Fence.wide.fn 56 := trivial
  have h1 : 1 ≤ 5 := by decide
  refine (callsIn_wide (n := 5)).1 ?_
  refine callsIn_of_wp_marks Try.func33 rfl trivial ?_ rfl
  simp only [Try.ntmps33, List.size_toArray, List.length_cons, List.length_nil, Nat.reduceAdd, Nat.reduceSub, Array.replicate_succ, Array.replicate_zero, List.push_toArray, List.append_toArray, List.nil_append, List.cons_append]
  gi_wp2_with (gi_at_call 56; refine (callsIn_wide.2 (all_is p _)).mono ?_; rintro e w' ⟨rfl, rfl⟩)
  refine wpIn_rangeFunc ?_
  intro fn hfn
  obtain ⟨W0, hW0⟩ : ∃ W0, (w.alloc (.cells #[.slice none 0 0] 49)).alloc (.cells #[.pointer (some ⟨p, 0, none⟩)] 74) = W0 := ⟨_, rfl⟩
  have hs0 : W0.heap.size = w.heap.size + 2 := by rw [← hW0]; simp
  have hv0 : W0.heap[w.heap.size]? = some (.cells #[.slice none 0 0] 49 (0, 0)) := by rw [← hW0]; exact (alloc_block_old _ (by simp)).trans (alloc_block_new w _)
  have hq0 : W0.heap[w.heap.size + 1]? = some (.cells #[.pointer (some ⟨p, 0, none⟩)] 74 (0, 0)) := by rw [← hW0]; exact alloc_block_at _ _ (by simp)
  have hb0 : Below w.heap.size w W0 := by rw [← hW0]; exact ((Below.refl _ w).alloc (Nat.le_refl _) _).alloc (by simp) _
  rw [hW0]
  obtain ⟨Bs, eBs⟩ : ∃ b, w.heap.size = b := ⟨_, rfl⟩
  obtain ⟨W1, hW1⟩ : ∃ W1, (W0.alloc (.deferred (some []))).alloc (.loop (allRec fn p Bs (Bs + 1) W0.heap.size .ready none)) = W1 := ⟨_, rfl⟩
  have hold : Below W0.heap.size W0 W1 := by rw [← hW1]; exact ((Below.refl _ _).alloc (Nat.le_refl _) _).alloc (by simp) _
  have hb1 : Below w.heap.size w W1 := hb0.trans (hold.mono hb0.size)
  have hD1 : W1.heap[W0.heap.size]? = some (.deferred (some [])) := by rw [← hW1]; exact (alloc_block_old _ (by simp)).trans (alloc_block_new W0 _)
  have hl1 : W1.heap[W0.heap.size + 1]? = some (.loop (allRec fn p Bs (Bs + 1) W0.heap.size .ready none)) := by rw [← hW1]; exact alloc_block_at _ _ (by simp)
  rw [eBs] at hv0 hq0 hs0 ⊢
  have hM : AAt w fn p Bs (Bs + 1) (W0.heap.size + 1) W0.heap.size [] 0 W1 :=
    ⟨⟨.slice none 0 0, [], fun _ => False, (hold.block Bs (by omega)).trans hv0, ⟨World.ownsRow_nil _ _ _ _, fun i x h => by simp at h, fun _ h => h.elim, fun _ h => h.elim, fun i j yi yj _ hj => absurd hj (by simp)⟩, fun _ h => h.elim⟩, hl1, hD1, hb1, (hold.block (Bs + 1) (by omega)).trans hq0⟩
  refine ⟨W0.heap.size + 1, [{ target := .collected W0.heap.size, args := #[] }], W1, { target := .fn (.func 67) #[.pointer (some ⟨Bs + 1, 0, none⟩)], args := #[.func (.yield (W0.heap.size + 1)) #[] #[]] }, W1, 67,
    #[.func (.yield (W0.heap.size + 1)) #[] #[]] ++ #[.pointer (some ⟨Bs + 1, 0, none⟩)], W1, ?_, ?_, ?_, ?_, fun _ => h1, ?_⟩
  · rw [← hW1]; exact run_enterLoop_outer _ _ _ _ _
  · simp [resolve, rangeCall, go_sem]
  · intro f' _; exact trivial
  · simp [invoke, go_sem, enters_of Try.func67 (by kernel_rfl) rfl]
  · refine (all1 w fn p Bs (Bs + 1) (W0.heap.size + 1) W0.heap.size (by omega) (by omega) (by omega) (by omega) (by omega) (by omega) (by omega) HQ.out W1 0 hM (5 - 1) (by decide)).mono ?_
    rintro e W2 ⟨⟨v0, rfl⟩, h2⟩
    obtain ⟨v, ys, F, hv, hN, _⟩ := h2.box
    have hend := run_endLoop (P := Try.prog) h2.L (by simp [allRec])
    have hP := Only.putObj W2 (W0.heap.size + 1) (.loop { allRec fn p Bs (Bs + 1) W0.heap.size .ready none with state := .exhausted })
    have hv3 := hP.keep hv (by omega)
    have hK3 := hP.keep h2.K (by omega)
    have hN3 := hN.other h2.L (fun c e => by cases e) (fun c e => by cases e) hP
    have hb3 : Below w.heap.size w _ := h2.below.trans (hP.below h2.below.size (fun k hk e => by omega))
    generalize W2.putObj (W0.heap.size + 1) (.loop { allRec fn p Bs (Bs + 1) W0.heap.size .ready none with state := .exhausted }) = W3 at *
    have c3 : W3.cell? ⟨Bs, 0, none⟩ = some v := cell_of_block hv3 0
    obtain ⟨D, eD⟩ : ∃ d, W0.heap.size = d := ⟨_, rfl⟩
    rw [eD] at hK3 hend hs0 ⊢
    have HK3 := Lib.hid hK3
    have HN3 := Lib.hid hN3
    have HB3 := Lib.hid hb3
    have HS0 := Lib.hid hs0
    have HEB := Lib.hid eBs
    clear hv hN h2 hP hv3 hK3 hN3 hb3 hM hl1 hD1 hb1 hold hW1 hq0 hv0 hb0 hW0 eD eBs hs0
    refine ⟨none, W3, hend, ?_⟩
    clear hend
    gi_wp2
    refine ⟨by simp, .inl ⟨_, _, rfl, run_takeDeferred HK3.out, ?_⟩⟩
    have hP := Only.putObj W3 D (.deferred none)
    have hw := HS0.out
    have he := HEB.out
    exact ⟨_, results_tmp rfl _ _ _, v, ys, F, rfl, HN3.out.other HK3.out (fun c e => by cases e) (fun c e => by cases e) hP, HB3.out.trans (hP.below HB3.out.size (fun k hk e => by omega))⟩
end Go.Proofs.Ythipfcmjpgbemaa

/- A relation between two worlds: all blocks that were there, but for some named ones, are as they were. Plain facts, over no program. -/
import Derived.WalkKit
import Derived.OneCell
import Derived.WalkSmall
import Derived.Lib.Hide
import Derived.StillTailTactics
import Derived.BigQuiet
import Derived.Test.YthipfcmjpgbemaaRows
import Derived.Outline
import Derived.Lib.SliceRun
import Derived.Laws.IdiomCopy
import Derived.Laws.CopyRow
import Derived.Deep.RegionLaw
namespace Go.Proofs.Ythipfcmjpgbemaa
open Go.RowKit

/-- Of the blocks that lie in w, only those of S may have changed. -/
structure Only (S : Nat → Prop) (w w' : World) : Prop where
  os : w'.os = w.os
  tape : w'.tape = w.tape
  output : w'.output = w.output
  size : w.heap.size ≤ w'.heap.size
  block : ∀ k, k < w.heap.size → ¬ S k → w'.heap[k]? = w.heap[k]?

theorem Only.refl (S : Nat → Prop) (w : World) : Only S w w := ⟨rfl, rfl, rfl, Nat.le_refl _, fun _ _ _ => rfl⟩

theorem Only.trans {S : Nat → Prop} {a b c : World} (h : Only S a b) (k : Only S b c) : Only S a c :=
  ⟨k.os.trans h.os, k.tape.trans h.tape, k.output.trans h.output, Nat.le_trans h.size k.size,
    fun i hi hs => (k.block i (Nat.lt_of_lt_of_le hi h.size) hs).trans (h.block i hi hs)⟩

theorem Only.mono {S T : Nat → Prop} {a b : World} (h : Only S a b) (hst : ∀ k, k < a.heap.size → S k → T k) : Only T a b :=
  ⟨h.os, h.tape, h.output, h.size, fun i hi hs => h.block i hi (fun s => hs (hst i hi s))⟩

theorem Only.drew {S : Nat → Prop} {a w : World} (h : Only S a w) : Only S a w.drew := ⟨h.os, h.tape, h.output, h.size, h.block⟩

theorem Only.drewN {S : Nat → Prop} {a w : World} (h : Only S a w) (n : Nat) : Only S a (w.drewN n) := ⟨h.os, h.tape, h.output, h.size, h.block⟩

theorem Only.alloc {S : Nat → Prop} {a w : World} (h : Only S a w) (o : Obj) : Only S a (w.alloc o) :=
  ⟨h.os, h.tape, h.output, by have := h.size; simp; omega, fun k hk hs => (Below.heap_alloc _ _ _ (Nat.lt_of_lt_of_le hk h.size)).trans (h.block k hk hs)⟩

theorem Only.setCell {S : Nat → Prop} {a w : World} (h : Only S a w) {p : Addr} (hp : p.block < a.heap.size → S p.block) (u : Value) : Only S a (w.setCell p u) :=
  ⟨h.os, h.tape, h.output, by have := h.size; simp [World.setCell]; omega,
    fun k hk hs => (Below.heap_setCell _ _ _ _ (fun (e : k = p.block) => hs (by subst e; exact hp hk))).trans (h.block k hk hs)⟩

/-- From below: what is kept below B stays kept if no block below B is named. -/
theorem Only.below {S : Nat → Prop} {a b : World} (h : Only S a b) {B : Nat} (hB : B ≤ a.heap.size) (hS : ∀ k, k < B → ¬ S k) : Below B a b :=
  ⟨h.os, h.tape, h.output, h.size, fun k hk => h.block k (by omega) (hS k hk)⟩

theorem Below.only {a b : World} (h : Below a.heap.size a b) (S : Nat → Prop) : Only S a b :=
  ⟨h.os, h.tape, h.output, h.size, fun k hk _ => h.block k hk⟩

theorem lt_of_obj {w : World} {b : Nat} {o : Obj} (h : w.heap[b]? = some o) : b < w.heap.size := by
  rcases Nat.lt_or_ge b w.heap.size with h' | h'
  · exact h'
  · simp [Array.getElem?_eq_none h'] at h

theorem Only.keep {S : Nat → Prop} {a b : World} (h : Only S a b) {k : Nat} {o : Obj} (ho : a.heap[k]? = some o) (hs : ¬ S k) : b.heap[k]? = some o :=
  (h.block k (lt_of_obj ho) hs).trans ho

theorem cell_of_block {w : World} {b : Nat} {cs : Array Value} {e : TypeId} {f : Nat × Nat} (h : w.heap[b]? = some (.cells cs e f)) (i : Nat) : w.cell? ⟨b, i, none⟩ = cs[i]? := by
  simp [World.cell?, h]
theorem free_of_block {w : World} {b : Nat} {cs : Array Value} {e : TypeId} (h : w.heap[b]? = some (.cells cs e (0, 0))) (i : Nat) : w.frozen? ⟨b, i, none⟩ = false := by
  simp [World.frozen?, h]
theorem setCell_block {w : World} {b : Nat} {cs : Array Value} {e : TypeId} {f : Nat × Nat} (h : w.heap[b]? = some (.cells cs e f)) (i : Nat) (u : Value) :
    (w.setCell ⟨b, i, none⟩ u).heap[b]? = some (.cells (cs.setIfInBounds i u) e f) := by
  have hlt := lt_of_obj h
  have h' : w.heap[b] = .cells cs e f := by simpa [Array.getElem?_eq_getElem hlt] using h
  show (w.heap.modify b _)[b]? = _
  rw [Array.getElem?_eq_getElem (by simpa using hlt), Array.getElem_modify_self, h']
  rfl
theorem setCell_block_other {w : World} {b c : Nat} (i : Nat) (u : Value) (h : b ≠ c) : (w.setCell ⟨c, i, none⟩ u).heap[b]? = w.heap[b]? :=
  Below.heap_setCell _ _ _ _ h
theorem alloc_block_old {w : World} {b : Nat} (o : Obj) (h : b < w.heap.size) : (w.alloc o).heap[b]? = w.heap[b]? := Below.heap_alloc _ _ _ h
theorem alloc_block_new (w : World) (o : Obj) : (w.alloc o).heap[w.heap.size]? = some o := by
  show (w.heap.push o)[w.heap.size]? = _
  simp
theorem alloc_block_at (w : World) (o : Obj) {n : Nat} (h : n = w.heap.size) : (w.alloc o).heap[n]? = some o := h ▸ alloc_block_new w o
/-- A region that draws its order, whose first n operations change nothing, and whose last ones are in one order by force. -/
theorem region_tail {P : Program} {id : Nat} {Q : Exit → Act → World → Prop} {a : Act} {w : World} {l : List Oper} (n : Nat) (hm : P.follows .mixedOrders = true) (hB : Region.lexTailB .any l.toArray n = true)
    (h : wpStill P l.toArray w.drew (fun a' => wpList P l.toArray Q (l.drop n) a' w.drew) (l.take n) a) : (Code.region id l.toArray true).wp P Q a w :=
  wp_region_still_tail n hm hB h
theorem set_int {w : World} {p : Addr} {k : IntKind} {x y : Int} (h : x = y) : w.setCell p (.int k x) = w.setCell p (.int k y) := by rw [h]
theorem ret_int {k : IntKind} {x y : Int} (h : x = y) : Ending.returned (.int k x) = Ending.returned (.int k y) := by rw [h]
theorem ret_ib {k : IntKind} {x y : Int} {b : Value} (h : x = y) : Ending.returned (.tuple #[.int k x, b]) = Ending.returned (.tuple #[.int k y, b]) := by rw [h]
theorem ret_bool {x y : Bool} (h : x = y) : Ending.returned (.bool x) = Ending.returned (.bool y) := by rw [h]
end Go.Proofs.Ythipfcmjpgbemaa

/- A slice that a call has made itself, and to which it appends: where its elements lie behind the append. Over any program. -/
namespace Go.Proofs.Ythipfcmjpgbemaa
open Go.RowKit

theorem own_slice {w : World} {base : Nat} {e : TypeId} {size : Nat} {v : Value} {n : Nat} {xs : List Value} (h : w.ownsRow base e size v n xs) (hn : 0 < n) :
    ∃ g cap, v = .slice (some ⟨g, 0, none⟩) n cap ∧ base ≤ g ∧ g < w.heap.size := by
  rcases h.2 with ⟨_, h0⟩ | ⟨g, cap, cur, hv, hg, hh, _⟩
  · omega
  · exact ⟨g, cap, hv, hg, lt_of_obj hh⟩

theorem own_shape {w : World} {base : Nat} {e : TypeId} {size : Nat} {v : Value} {n : Nat} {xs : List Value} (h : w.ownsRow base e size v n xs) :
    ∃ a cap, v = .slice a n cap := by
  rcases h.2 with ⟨hv, h0⟩ | ⟨g, cap, cur, hv, _⟩
  · subst h0; exact ⟨_, _, hv⟩
  · exact ⟨_, _, hv⟩

section
variable {P : Program} (w : World)

theorem append_where (t ty e : TypeId) (i : TypeInfo) (z : Value) (size bytes : Nat) (ht : P.underlying t = some (.slice e)) (hi : P.info? e = some i) (hz : i.zero = some z)
    (hsize : i.size = size) (hby : i.bytes = bytes) (hzs : z.cells.size = size) (hsz : 0 < size)
    (v : Value) (n : Nat) (xs : List Value) (hown : w.ownsRow 0 e size v n xs)
    (a : Addr) (m c : Nat) (news : List Value) (hl : news.length = m * size) (hnews : ∀ j u, news[j]? = some u → w.cell? (a.add j) = some u) (h1 : ∀ u ∈ news, u.oneCell' = true)
    (h63 : n + m ≤ maxLen) (hbytes : (n + m) * bytes ≤ 140737488355328) :
    ∃ v' w', (Builtin.append_ #[t, t] ty #[v, .slice (some a) m c]).run P w = .ok v' w' ∧ w'.ownsRow 0 e size v' (n + m) (xs ++ news) ∧ w.grownBy w' v.ownBlock ∧
      (v'.ownBlock = v.ownBlock ∨ v'.ownBlock = some w.heap.size) := by
  obtain ⟨v', w', hr, ho, hg, hn⟩ := run_append_own (P := P) w 0 t ty e i z size bytes ht hi hz hsize hby hzs hsz v n xs hown a m c news hl hnews h1 h63 hbytes (Nat.zero_le _)
  refine ⟨v', w', hr, ho, hg, ?_⟩
  have small : n + m ≤ 9223372036854775807 := by simp only [maxLen] at h63; omega
  subst hsize hby
  rcases hown.2 with ⟨hv, h0⟩ | ⟨g, cap, cur, hv, _, hh, hnc, hcm, hcs, _⟩
  · by_cases hm : m = 0
    · have hv' := hn.2 ⟨hv, hm⟩
      exact .inl (by rw [hv', hv])
    · subst hv h0
      have hb := hbytes
      simp only [Nat.zero_add] at hb
      have hx := run_append_nil (P := P) w t ty e i z ht hi hz a m c news hl hnews (by omega) (by omega) (by omega)
      rw [hr] at hx
      injection hx with hx _
      exact .inr (by rw [hx]; rfl)
  · subst hv
    by_cases hroom : n + m ≤ cap
    · have hx := run_append_room (P := P) w t ty e i ht hi g n cap cur hh a m c news hl hnews h1 hroom (by rw [hl, hcs, ← Nat.add_mul]; exact Nat.mul_le_mul_right _ hroom)
      rw [hr] at hx
      injection hx with hx _
      exact .inl (by rw [hx]; rfl)
    · have hx := run_append_grow (P := P) w t ty e i z ht hi hz ⟨g, 0, none⟩ n cap xs hown.1 (hown.cells (g := g) rfl) a m c news hl hnews (by omega) (by omega) (growslice_fits (by omega) hbytes)
      rw [hr] at hx
      injection hx with hx _
      exact .inr (by rw [hx]; rfl)

theorem wpList_append_row {ops : Array Oper} {rest : List Oper} {o : Oper} {a : Act} {Q : Exit → Act → World → Prop} (hgd : o.guard = none) (s x : Operand) (t : TypeId)
    (ho : o.op = .call { callee := .builtin .append, args := #[s, x], argTypes := #[t, t] })
    (e : TypeId) (i : TypeInfo) (z : Value) (size bytes : Nat) (ht : P.underlying t = some (.slice e)) (hi : P.info? e = some i) (hz : i.zero = some z)
    (hsize : i.size = size) (hby : i.bytes = bytes) (hzs : z.cells.size = size) (hsz : 0 < size)
    (v : Value) (n : Nat) (xs : List Value) (hs : a.eval s = v) (hown : w.ownsRow 0 e size v n xs)
    (ad : Addr) (m c : Nat) (news : List Value) (hx : a.eval x = .slice (some ad) m c) (hl : news.length = m * size) (hnews : ∀ j u, news[j]? = some u → w.cell? (ad.add j) = some u) (h1 : ∀ u ∈ news, u.oneCell' = true)
    (h63 : n + m ≤ maxLen) (hbytes : (n + m) * bytes ≤ 140737488355328)
    (h : ∀ v' w', w'.ownsRow 0 e size v' (n + m) (xs ++ news) → w.grownBy w' v.ownBlock → (v'.ownBlock = v.ownBlock ∨ v'.ownBlock = some w.heap.size) → wpList P ops Q rest (a.put o.dst v') w') :
    wpList P ops Q (o :: rest) a w := by
  refine wpList_plain hgd fun K hK => ?_
  obtain ⟨v', w', hr, h2, h3, h4⟩ := append_where (P := P) w t o.type e i z size bytes ht hi hz hsize hby hzs hsz v n xs hown ad m c news hl hnews h1 h63 hbytes
  unfold Oper.wp execOp
  simp only [ho, resolve, invoke, builtin, Sem.run_bind, Sem.run_pure, Result.andThen_ok, List.map_toArray, List.map_cons, List.map_nil, hs, hx, hr]
  exact hK _ _ (h v' w' h2 h3 h4)
end

theorem one_new (w : World) (x : Value) (e : TypeId) : ∀ j u, [x][j]? = some u → (w.alloc (.cells #[x] e)).cell? ((⟨w.heap.size, 0, none⟩ : Addr).add j) = some u := by
  intro j u h
  have hj : j = 0 := by
    have := (List.getElem?_eq_some_iff.1 h).1
    simp at this
    exact this
  subst hj
  simp at h
  subst h
  exact cell_of_block (alloc_block_new w _) 0

/-- Behind 'grownBy' of one row. -/
theorem Only.grown {S : Nat → Prop} {a w w' : World} {row : Option Nat} (h : Only S a w) (hg : w.grownBy w' row) (hr : ∀ k, row = some k → k < a.heap.size → S k) : Only S a w' :=
  ⟨hg.os.trans h.os, hg.tape.trans h.tape, hg.output.trans h.output, Nat.le_trans h.size hg.size,
    fun k hk hs => (hg.block k (Nat.lt_of_lt_of_le hk h.size) (fun e => hs (hr k e.symm hk))).trans (h.block k hk hs)⟩
theorem grown_keep {w w' : World} {row : Option Nat} (hg : w.grownBy w' row) {k : Nat} {o : Obj} (ho : w.heap[k]? = some o) (hne : row ≠ some k) : w'.heap[k]? = some o :=
  (hg.block k (lt_of_obj ho) (fun e => hne e.symm)).trans ho

theorem own_only {S : Nat → Prop} {w w' : World} {base : Nat} {e : TypeId} {size : Nat} {v : Value} {n : Nat} {xs : List Value} (h : w.ownsRow base e size v n xs) (hO : Only S w w') (hS : ∀ k, v.ownBlock = some k → ¬ S k) : w'.ownsRow base e size v n xs := by
  refine ⟨h.1, ?_⟩
  rcases h.2 with hn | ⟨g, cap, cur, rfl, hb, hgg, rest⟩
  · exact .inl hn
  · exact .inr ⟨g, cap, cur, rfl, hb, hO.keep hgg (hS g rfl), rest⟩
theorem own_grown {w w' : World} {base : Nat} {e : TypeId} {size : Nat} {v : Value} {n : Nat} {xs : List Value} {row : Option Nat} (h : w.ownsRow base e size v n xs) (hg : w.grownBy w' row) (hne : ∀ k, v.ownBlock = some k → row ≠ some k) : w'.ownsRow base e size v n xs :=
  h.kept hg (by
    cases hv : v.ownBlock with
    | none => exact .inl rfl
    | some k => exact .inr (fun e => hne k hv e.symm))

/-- Behind a store: the block as it is now; all others are as they were. -/
structure Stored (w w' : World) (g : Nat) (cs : Array Value) (t : TypeId) : Prop where
  blk : w'.heap[g]? = some (.cells cs t (0, 0))
  only : Only (· = g) w w'
  size : w'.heap.size = w.heap.size

theorem stored_setRow {w : World} {g : Nat} {old cs : Array Value} {t : TypeId} (hg : w.heap[g]? = some (.cells old t (0, 0))) : Stored w (w.setRow g cs) g cs t :=
  ⟨setRow_heap w g old cs t (0, 0) hg, ⟨rfl, rfl, rfl, by simp [World.setRow], fun k _ hk => setRow_other w g k cs hk⟩, by simp [World.setRow]⟩

section
variable {P : Program}

theorem wpList_store_blk {ops : Array Oper} {rest : List Oper} {o : Oper} {a : Act} {w : World} {Q : Exit → Act → World → Prop} (hgd : o.guard = none) (ty : TypeId) (x y : Operand) (ho : o.op = .store ty x y)
    (g : Nat) (cells : Array Value) (hx : a.eval x = .pointer (some ⟨g, 0, none⟩)) (hy : a.eval y = .agg cells)
    (t : TypeId) (old : Array Value) (hg : w.heap[g]? = some (.cells old t (0, 0))) (hi : (P.info? ty).map (·.size) = some cells.size)
    (hold : old.size = cells.size) (h1 : cells.all (·.oneCell') = true)
    (h : ∀ w', Stored w w' g cells t → wpList P ops Q rest (a.put o.dst undef) w') : wpList P ops Q (o :: rest) a w :=
  wpList_store_row hgd ty x y ho g cells hx hy t old hg hi hold h1 (h _ (stored_setRow hg))

/-- A store of so many cells into a block, from a place on. -/
theorem wpList_store_at {ops : Array Oper} {rest : List Oper} {o : Oper} {a : Act} {w : World} {Q : Exit → Act → World → Prop} (hgd : o.guard = none) (ty : TypeId) (x y : Operand) (ho : o.op = .store ty x y)
    (g off : Nat) (v : Value) (hx : a.eval x = .pointer (some ⟨g, off, none⟩)) (hy : a.eval y = v)
    (t : TypeId) (old : Array Value) (hg : w.heap[g]? = some (.cells old t (0, 0))) (vs : List Value) (hv : v.cells.toList = vs) (hi : (P.info? ty).map (·.size) = some vs.length)
    (hfit : off + vs.length ≤ old.size) (h1 : ∀ u ∈ vs, u.oneCell' = true)
    (h : ∀ w', Stored w w' g (old.toList.take off ++ vs ++ old.toList.drop (off + vs.length)).toArray t → wpList P ops Q rest (a.put o.dst undef) w') : wpList P ops Q (o :: rest) a w := by
  refine wpList_plain hgd fun K hK => ?_
  have hr := run_storeCells_at P g off t vs 0 old w hg (by simpa using hfit) h1
  simp only [Nat.add_zero] at hr
  have hsv : (storeVar ty ⟨g, off, none⟩ v).run P w = .ok () (w.setRow g (old.toList.take off ++ vs ++ old.toList.drop (off + vs.length)).toArray) := by
    cases hq : P.info? ty with
    | none => simp [hq] at hi
    | some i =>
      have hs : v.cells.size = i.size := by
        simp [hq] at hi
        rw [hi, ← hv, Array.length_toList]
      simp [storeVar, sizeOf, typeInfo, hq, hs, hv, hr]
  unfold Oper.wp execOp
  simp only [ho, hx, hy, Instr.storeAt, Instr.sureAddr, Sem.run_bind, Sem.run_pure, Result.andThen_ok, hsv]
  exact hK _ _ (h _ (stored_setRow hg))
end

/-- A world of a class. -/
structure Wld (F : World → Prop) where
  w : World
  ok : F w

/-- A region that draws its order, whose operations yield the same in every world of a class, and keep to the class. -/
theorem region_class {P : Program} {id : Nat} {Q : Exit → Act → World → Prop} {a : Act} {w : World} {l : List Oper} (F : World → Prop) (hm : P.follows .mixedOrders = true) (hB : Region.lexB .any l.toArray = true) (hC : F w.drew)
    (h : wpQuiet P l.toArray (fun w' => ∃ x : Wld F, w' = x.w) (fun a' => ∀ w', F w' → Q .normal a' w') l a) : (Code.region id l.toArray true).wp P Q a w :=
  wp_region_quiet (C := fun w' => ∃ x : Wld F, w' = x.w) hm hB ⟨⟨_, hC⟩, rfl⟩ (by
    have e : (fun a' => ∀ w', F w' → Q .normal a' w') = (fun a' => ∀ w', (∃ x : Wld F, w' = x.w) → Q .normal a' w') := by
      funext a'
      exact propext ⟨fun h w' ⟨x, hx⟩ => hx ▸ h x.w x.ok, fun h w' hw => h w' ⟨⟨w', hw⟩, rfl⟩⟩
    rw [e] at h
    simpa using h)
end Go.Proofs.Ythipfcmjpgbemaa

/- Bytes: slices of them as they lie in memory, and slices.Clone of []byte. Over any seat. -/
namespace Go.Proofs.Ythipfcmjpgbemaa
open Go.RowKit

/-- Bytes as cells. -/
def u8s (zs : List Nat) : List Value := zs.map fun (z : Nat) => Value.int .u8 (z : Int)
@[simp] theorem u8s_len (zs : List Nat) : (u8s zs).length = zs.length := by simp [u8s]
theorem u8s_one {zs : List Nat} : ∀ u ∈ u8s zs, u.oneCell' = true := by
  intro u hu
  obtain ⟨z, _, rfl⟩ := List.mem_map.1 hu
  rfl
theorem u8s_get (zs : List Nat) (j : Nat) (hj : j < zs.length) : (u8s zs)[j]? = some (.int .u8 (zs.getD j 0 : Nat)) := by
  simp [u8s, List.getElem?_eq_getElem hj]

/-- v is a slice that holds these bytes: nil, empty, or some. -/
def Holds8 (w : World) (v : Value) (zs : List Nat) : Prop :=
  ∃ ao cap, v = .slice ao zs.length cap ∧ zs.length ≤ cap ∧ (ao = none → cap = 0) ∧ (0 < zs.length → ∀ x, ao = some x → x.block < w.heap.size) ∧
    (0 < zs.length → ∃ b o, ao = some ⟨b, o, none⟩ ∧ ∀ j, j < zs.length → w.cell? ⟨b, o + j, none⟩ = some (.int .u8 (zs.getD j 0 : Nat)))

/-- An own row of bytes. -/
abbrev Own8 (w : World) (base : Nat) (v : Value) (zs : List Nat) : Prop := w.ownsRow base 5 1 v zs.length (u8s zs)

theorem Own8.holds {w : World} {base : Nat} {v : Value} {zs : List Nat} (h : Own8 w base v zs) : Holds8 w v zs := by
  rcases h.2 with ⟨hv, h0⟩ | ⟨g, cap, cur, hv, hg, hh, hnc, hcm, hcs, hx⟩
  · exact ⟨none, 0, by rw [hv, h0], by omega, fun _ => rfl, by simp, fun h => by omega⟩
  · refine ⟨_, cap, hv, hnc, by simp, fun _ x hx => by injection hx with hx; subst hx; exact lt_of_obj hh, fun h0 => ⟨g, 0, rfl, fun j hj => ?_⟩⟩
    refine (cell_of_block hh _).trans ?_
    have e := u8s_get zs j hj
    rw [← hx] at e
    simpa [hj] using e

theorem Holds8.keep {w w' : World} {v : Value} {zs : List Nat} (h : Holds8 w v zs) (hs : w.heap.size ≤ w'.heap.size) (hk : ∀ k, v.ownBlock = some k → w'.heap[k]? = w.heap[k]?) : Holds8 w' v zs := by
  obtain ⟨ao, cap, rfl, h1, h2, h3, h4⟩ := h
  refine ⟨ao, cap, rfl, h1, h2, fun h0 x hx => Nat.lt_of_lt_of_le (h3 h0 x hx) hs, fun h0 => ?_⟩
  obtain ⟨b, o, rfl, hc⟩ := h4 h0
  refine ⟨b, o, rfl, fun j hj => ?_⟩
  rw [← hc j hj]
  exact World.cell?_of_block (w := w) (hk b rfl)
theorem Holds8.below {w w' : World} {v : Value} {zs : List Nat} (h : Holds8 w v zs) (hb : Below w.heap.size w w') : Holds8 w' v zs := by
  by_cases h0 : 0 < zs.length
  · refine h.keep hb.size fun k hk => hb.block k ?_
    obtain ⟨ao, cap, rfl, _, _, h3, _⟩ := h
    cases ao with
    | none => cases hk
    | some x => injection hk with hk; subst hk; exact h3 h0 x rfl
  · obtain ⟨ao, cap, e, h1, h2, _, _⟩ := h
    exact ⟨ao, cap, e, h1, h2, fun h => absurd h h0, fun h => absurd h h0⟩

theorem info_u8c : (Try.prog.info? 5).map (fun i => (i.zero, i.size, i.bytes)) = some (some (Value.int .u8 0), 1, 1) := by kernel_rfl

set_option maxRecDepth 100000 in
theorem clone_any (v : Value) (zs : List Nat) (w : World) (h : Holds8 w v zs) (hlen : zs.length ≤ 1099511627776) :
    Calls Try.prog 64 #[v] w fun e w' => ∃ v', e = .returned v' ∧ Own8 w' w.heap.size v' zs ∧ Below w.heap.size w w' := by
  obtain ⟨i0, hi, hz0, hz1, hz2⟩ := info_parts info_u8c
  obtain ⟨ao, cap, rfl, hcap, hnone, hlt, hc⟩ := h
  have q : ∀ (w : World) (a : Option Addr) (n c n' c' : Nat), (binOp .eql 32 (.slice a n c) (.slice none n' c')).run Try.prog w = .ok (.bool a.isNone) w := fun w a n c n' c' => Lib.run_eql_slice_nil w _ _ a n c n' c' Try.underlying32
  cases ao with
  | none =>
    have h0 : zs.length = 0 := by have := hnone rfl; omega
    have hz : zs = [] := List.eq_nil_of_length_eq_zero h0
    subst hz
    go_enter Try.func64, Try.ntmps64
    go_wp2_with fail
    exact bodyPost_ret (v := .slice none 0 0) (by simp [results, Try.results64, go_sem]) rfl ⟨_, rfl, World.ownsRow_nil _ _ _ _, Below.refl _ _⟩
  | some x =>
    have hsrc : ∀ j u, (u8s zs)[j]? = some u → (w.alloc (.cells #[] 5)).cell? (x.add j) = some u := by
      intro j u hu
      have hj : j < zs.length := by
        have := (List.getElem?_eq_some_iff.1 hu).1
        simpa using this
      obtain ⟨b, o, hx, hc2⟩ := hc (by omega)
      injection hx with hx
      subst hx
      rw [u8s_get zs j hj] at hu
      rw [← hu, ← hc2 j hj, Addr.add_lit]
      exact World.cell?_of_block (w := w) (Below.heap_alloc _ _ _ (hlt (by omega) ⟨b, o, none⟩ rfl))
    have hown : (w.alloc (.cells #[] 5)).ownsRow w.heap.size 5 1 (.slice (some ⟨w.heap.size, 0, none⟩) 0 0) 0 [] :=
      ⟨rfl, .inr ⟨w.heap.size, 0, #[], rfl, Nat.le_refl _, alloc_block_new w _, Nat.le_refl _, by decide, rfl, rfl⟩⟩
    go_enter Try.func64, Try.ntmps64
    go_wp2_with (at_builtin; refine wpList_append_own _ rfl (.tmp 5) (.tmp 6) 32 rfl w.heap.size 5 i0 (.int .u8 0) 1 1 Try.underlying32 hi hz0 hz1 hz2 rfl (by decide) _ 0 [] rfl hown x zs.length cap (u8s zs) rfl (by simp) hsrc u8s_one (by unfold maxLen; omega) (by omega) (by simp) ?_)
    intro v' w' ho hg _
    go_wp2_with fail
    refine bodyPost_ret (v := v') (by simp [results, Try.results64, go_sem]) rfl ⟨_, rfl, ho, ?_⟩
    have h1 : Only (fun _ => False) w (w.alloc (.cells #[] 5)) := (Only.refl _ _).alloc _
    exact (h1.grown hg (fun k hk hl => by injection hk with hk; subst hk; exact absurd hl (Nat.lt_irrefl _))).below (Nat.le_refl _) (fun _ _ h => h)
end Go.Proofs.Ythipfcmjpgbemaa

/- copy of bytes into an own row. -/
namespace Go.Proofs.Ythipfcmjpgbemaa
open Go.RowKit

/-- Bytes with others in place of some. -/
def laid (zs : List Nat) (i : Nat) (ys : List Nat) : List Nat := zs.take i ++ (ys ++ zs.drop (i + ys.length))
theorem laid_len {zs ys : List Nat} {i : Nat} (h : i + ys.length ≤ zs.length) : (laid zs i ys).length = zs.length := by simp [laid]; omega

theorem take_laid {L : List Value} {zs ys : List Nat} {i : Nat} (e : L.take zs.length = u8s zs) (hi : i + ys.length ≤ zs.length) :
    (L.take i ++ u8s ys ++ L.drop (i + ys.length)).take zs.length = u8s (laid zs i ys) := by
  obtain ⟨r, rfl⟩ : ∃ r, L = u8s zs ++ r := ⟨L.drop zs.length, by rw [← e, List.take_append_drop]⟩
  have h1 : (u8s zs ++ r).take i = u8s (zs.take i) := by
    rw [List.take_append_of_le_length (by simp; omega)]
    simp [u8s, List.map_take]
  have h2 : (u8s zs ++ r).drop (i + ys.length) = u8s (zs.drop (i + ys.length)) ++ r := by
    rw [List.drop_append_of_le_length (by simp; omega)]
    simp [u8s, List.map_drop]
  rw [h1, h2]
  have h3 : u8s (zs.take i) ++ u8s ys ++ (u8s (zs.drop (i + ys.length)) ++ r) = u8s (laid zs i ys) ++ r := by simp [u8s, laid]
  rw [h3, List.take_append_of_le_length (by simp [laid_len hi]), List.take_of_length_le (by simp [laid_len hi])]

theorem run_copy8 {w : World} {base : Nat} {v : Value} {zs : List Nat} (h : Own8 w base v zs) (i : Nat) {ys : List Nat} (hi : i + ys.length ≤ zs.length) (ty : TypeId)
    (b : Option Addr) (c n : Nat) (hv : v = .slice b zs.length c) (dst : Value) (hd : (dst = .slice (Option.map (fun x => x.add i) b) (zs.length - i) n) ∨ (c = i ∧ dst = .slice b (zs.length - i) n)) {src : Value} (hs : Holds8 w src ys) :
    ∃ w', (Builtin.copy_ #[32, 32] ty #[dst, src]).run Try.prog w = .ok (goInt ys.length) w' ∧ Own8 w' base v (laid zs i ys) ∧ Only (fun k => v.ownBlock = some k) w w' ∧ w'.heap.size = w.heap.size := by
  obtain ⟨i0, hinf, hz0, hz1, hz2⟩ := info_parts info_u8c
  have hsz : (Try.prog.info? 5).map (·.size) = some 1 := by rw [hinf]; simp [hz1]
  obtain ⟨ao, cap, rfl, hcap, _, _, hc⟩ := hs
  by_cases h0 : ys.length = 0
  · have hy : ys = [] := List.eq_nil_of_length_eq_zero h0
    subst hy
    have hl : laid zs i [] = zs := by simp [laid]
    rw [hl]
    refine ⟨w, ?_, h, Only.refl _ _, rfl⟩
    rcases hd with rfl | ⟨_, rfl⟩
    · exact run_copy_none (P := Try.prog) w _ _ ty 5 _ _ _ _ _ _ Try.underlying32 hsz (by simp)
    · exact run_copy_none (P := Try.prog) w _ _ ty 5 _ _ _ _ _ _ Try.underlying32 hsz (by simp)
  · obtain ⟨sb, so, rfl, hsrc⟩ := hc (by omega)
    rcases h.2 with ⟨hv0, hz⟩ | ⟨g, cp, cur, hv2, hg, hh, hnc, hcm, hcs, hx⟩
    · omega
    · have hb : b = some ⟨g, 0, none⟩ ∧ c = cp := by rw [hv] at hv2; injection hv2 with e1 e2 e3; exact ⟨e1, e3⟩
      obtain ⟨rfl, rfl⟩ := hb
      have hd2 : dst = .slice (some ⟨g, i, none⟩) (zs.length - i) n := by
        rcases hd with rfl | ⟨rfl, rfl⟩
        · simp [Addr.add_lit]
        · omega
      subst hd2
      have hrow := run_copy_row (P := Try.prog) w 32 32 ty 5 g i (zs.length - i) n ⟨sb, so, none⟩ ys.length cap cur 5 (u8s ys) Try.underlying32 hsz hh (by rw [u8s_len]; exact (Nat.min_eq_left (by omega)).symm)
        (by
          intro j u hu
          have hj : j < ys.length := by
            have := (List.getElem?_eq_some_iff.1 hu).1
            simpa using this
          rw [u8s_get ys j hj] at hu
          rw [Addr.add_lit, hsrc j hj, hu]) (by simp; omega) u8s_one
      rw [u8s_len] at hrow
      have hst := stored_setRow (cs := (cur.toList.take i ++ u8s ys ++ cur.toList.drop (i + ys.length)).toArray) hh
      refine ⟨_, hrow, ?_, hst.only.mono (fun k _ e => by subst e; rw [hv2]; rfl), hst.size⟩
      have hll := laid_len hi
      refine ⟨by simp, .inr ⟨g, c, _, ?_, hg, hst.blk, ?_, hcm, ?_, ?_⟩⟩
      · rw [hv2, hll]
      · omega
      · simp
        have : cur.size = c := by omega
        omega
      · rw [hll]
        simpa using take_laid (by simpa using hx) hi

section
variable {P : Program}
theorem wpList_copy_by (w : World) {ops : Array Oper} {rest : List Oper} {o : Oper} {a : Act} {Q : Exit → Act → World → Prop} (hgd : o.guard = none) (d s : Operand) (t t' : TypeId)
    (ho : o.op = .call { callee := .builtin .copy, args := #[d, s], argTypes := #[t, t'] }) (v u : Value) (hd : a.eval d = v) (hs : a.eval s = u) {v' : Value} {w' : World}
    (hr : (Builtin.copy_ #[t, t'] o.type #[v, u]).run P w = .ok v' w') (h : wpList P ops Q rest (a.put o.dst v') w') : wpList P ops Q (o :: rest) a w := by
  refine wpList_plain hgd fun K hK => ?_
  unfold Oper.wp execOp
  simp only [ho, resolve, invoke, builtin, Sem.run_bind, Sem.run_pure, Result.andThen_ok, List.map_toArray, List.map_cons, List.map_nil, hd, hs, hr]
  exact hK _ _ h
end
end Go.Proofs.Ythipfcmjpgbemaa

/- An append onto a slice of the call's own as one step of a region that draws its order. Over any program. -/
namespace Go.Proofs.Ythipfcmjpgbemaa
open Go.RowKit

theorem step_append_row {P : Program} {ops : Array Oper} {o : Oper} {a : Act} {w : World} {K : Act → World → Prop} {Q : Exit → Act → World → Prop} {E : Prop} (hgd : o.guard = none) (s x : Operand) (t : TypeId)
    (ho : o.op = .call { callee := .builtin .append, args := #[s, x], argTypes := #[t, t] })
    (e : TypeId) (i : TypeInfo) (z : Value) (size bytes : Nat) (ht : P.underlying t = some (.slice e)) (hi : P.info? e = some i) (hz : i.zero = some z)
    (hsize : i.size = size) (hby : i.bytes = bytes) (hzs : z.cells.size = size) (hsz : 0 < size)
    (v : Value) (n : Nat) (xs : List Value) (hs : a.eval s = v) (hown : w.ownsRow 0 e size v n xs)
    (ad : Addr) (m c : Nat) (news : List Value) (hx : a.eval x = .slice (some ad) m c) (hl : news.length = m * size) (hnews : ∀ j u, news[j]? = some u → w.cell? (ad.add j) = some u) (h1 : ∀ u ∈ news, u.oneCell' = true)
    (h63 : n + m ≤ maxLen) (hbytes : (n + m) * bytes ≤ 140737488355328)
    (hK : ∀ v' w', w'.ownsRow 0 e size v' (n + m) (xs ++ news) → w.grownBy w' v.ownBlock → (v'.ownBlock = v.ownBlock ∨ v'.ownBlock = some w.heap.size) → K (a.put o.dst v') w') :
    if Region.wanted o (yielded ops a.tmps) = true then Oper.wp P o a w K Q else E := by
  obtain ⟨v', w', hr, h2, h3, h4⟩ := append_where (P := P) w t o.type e i z size bytes ht hi hz hsize hby hzs hsz v n xs hown ad m c news hl hnews h1 h63 hbytes
  rw [if_pos (show Region.wanted o (yielded ops a.tmps) = true by simp only [Region.wanted, hgd])]
  unfold Oper.wp execOp
  simp only [ho, resolve, invoke, builtin, Sem.run_bind, Sem.run_pure, Result.andThen_ok, List.map_toArray, List.map_cons, List.map_nil, hs, hx, hr]
  exact hK v' w' h2 h3 h4

theorem three_new (w : World) (x y z : Value) (e : TypeId) : ∀ j u, [x, y, z][j]? = some u → (w.alloc (.cells #[x, y, z] e)).cell? ((⟨w.heap.size, 0, none⟩ : Addr).add j) = some u := by
  intro j u h
  have hj : j < 3 := (List.getElem?_eq_some_iff.1 h).1
  rw [Addr.add_lit, Nat.zero_add]
  refine (cell_of_block (alloc_block_new w _) j).trans ?_
  rcases (show j = 0 ∨ j = 1 ∨ j = 2 by omega) with rfl | rfl | rfl <;> simpa using h
end Go.Proofs.Ythipfcmjpgbemaa

/- What a bucket of tokens is, as four numbers, and what is done with it: plain facts on numbers, over no program. -/
namespace Go.Proofs.Ythipfcmjpgbemaa

/-- Rate, burst, tick, tokens. -/
structure Bk where
  rate : Nat
  burst : Nat
  tick : Nat
  tok : Nat

/-- The four numbers fit 64 bits; never more tokens than the burst. -/
structure Bk.Ok (b : Bk) : Prop where
  rate : b.rate < 18446744073709551616
  burst : b.burst < 18446744073709551616
  tick : b.tick < 18446744073709551616
  tok : b.tok ≤ b.burst

/-- The four cells. -/
def Bk.cells (b : Bk) : Array Value := #[.int .u64 b.rate, .int .u64 b.burst, .int .u64 b.tick, .int .u64 b.tok]

/-- Filled up to a tick. -/
def Bk.fill (b : Bk) (t : Nat) : Bk := if t ≤ b.tick then b else { b with tok := min b.burst (b.tok + b.rate * (t - b.tick)), tick := t }

theorem Bk.fill_le {b : Bk} {t : Nat} (h : t ≤ b.tick) : b.fill t = b := if_pos h
theorem Bk.fill_gt {b : Bk} {t : Nat} (h : ¬ t ≤ b.tick) : b.fill t = { b with tok := min b.burst (b.tok + b.rate * (t - b.tick)), tick := t } := if_neg h

theorem Bk.Ok.fill {b : Bk} (h : b.Ok) {t : Nat} (ht : t < 18446744073709551616) : (b.fill t).Ok := by
  by_cases hle : t ≤ b.tick
  · rw [Bk.fill_le hle]; exact h
  · rw [Bk.fill_gt hle]
    exact ⟨h.rate, h.burst, ht, Nat.min_le_left _ _⟩

/-- Some tokens are taken. -/
def Bk.less (b : Bk) (n : Nat) : Bk := { b with tok := b.tok - n }

/-- Filled, and then taken from, if there is as much. -/
def Bk.take (b : Bk) (t n : Nat) : Bk := if n ≤ (b.fill t).tok then (b.fill t).less n else b.fill t
/-- Whether there is as much. -/
def Bk.can (b : Bk) (t n : Nat) : Bool := decide (n ≤ (b.fill t).tok)

theorem Bk.take_yes {b : Bk} {t n : Nat} (h : n ≤ (b.fill t).tok) : b.take t n = (b.fill t).less n := if_pos h
theorem Bk.take_no {b : Bk} {t n : Nat} (h : ¬ n ≤ (b.fill t).tok) : b.take t n = b.fill t := if_neg h
theorem Bk.can_yes {b : Bk} {t n : Nat} (h : n ≤ (b.fill t).tok) : b.can t n = true := decide_eq_true h
theorem Bk.can_no {b : Bk} {t n : Nat} (h : ¬ n ≤ (b.fill t).tok) : b.can t n = false := decide_eq_false h

theorem Bk.Ok.take {b : Bk} (h : b.Ok) {t n : Nat} (ht : t < 18446744073709551616) : (b.take t n).Ok := by
  have hf := h.fill ht
  unfold Bk.take
  split
  · refine ⟨hf.rate, hf.burst, hf.tick, ?_⟩
    show (b.fill t).tok - n ≤ (b.fill t).burst
    have := hf.tok
    omega
  · exact hf

/-- How many ticks it takes till n tokens are there. -/
def Bk.ticks (b : Bk) (n : Nat) : Nat := (n - b.tok - 1) / b.rate + 1
/-- The first tick at which n tokens are there, and whether there is one. -/
def Bk.when (b : Bk) (n : Nat) : Nat × Bool :=
  if n ≤ b.tok then (b.tick, true)
  else if b.burst < n ∨ b.rate = 0 then (0, false)
  else if b.tick + b.ticks n < 18446744073709551616 then (b.tick + b.ticks n, true)
  else (0, false)
theorem Bk.when_now {b : Bk} {n : Nat} (h : n ≤ b.tok) : b.when n = (b.tick, true) := if_pos h
theorem Bk.when_never {b : Bk} {n : Nat} (h : ¬ n ≤ b.tok) (h' : b.burst < n ∨ b.rate = 0) : b.when n = (0, false) := by
  unfold Bk.when; rw [if_neg h, if_pos h']
theorem Bk.when_later {b : Bk} {n : Nat} (h : ¬ n ≤ b.tok) (h' : ¬ (b.burst < n ∨ b.rate = 0)) (h2 : b.tick + b.ticks n < 18446744073709551616) : b.when n = (b.tick + b.ticks n, true) := by
  unfold Bk.when; rw [if_neg h, if_neg h', if_pos h2]
theorem Bk.when_past {b : Bk} {n : Nat} (h : ¬ n ≤ b.tok) (h' : ¬ (b.burst < n ∨ b.rate = 0)) (h2 : ¬ b.tick + b.ticks n < 18446744073709551616) : b.when n = (0, false) := by
  unfold Bk.when; rw [if_neg h, if_neg h', if_neg h2]
end Go.Proofs.Ythipfcmjpgbemaa

/- What is taken of a bucket is at most its burst, and its rate for each tick between: plain facts on numbers and lists, over no program. -/
namespace Go.Proofs.Ythipfcmjpgbemaa

/-- At each of the ticks ats so many tokens were taken as tks tells; now it is tick T, and tok tokens are there. -/
structure BFair (r b : Nat) (ats tks : List Nat) (T tok : Nat) : Prop where
  len : ats.length = tks.length
  tle : tok ≤ b
  at_le : ∀ k, k < ats.length → ats.getD k 0 ≤ T
  sum : ∀ k, k < ats.length → (tks.drop k).sum + tok ≤ b + r * (T - ats.getD k 0)

theorem BFair.nil (r b : Nat) : BFair r b [] [] 0 b := ⟨rfl, Nat.le_refl _, by simp, by simp⟩

theorem getD_snoc_lt {l : List Nat} {x k : Nat} (h : k < l.length) : (l ++ [x]).getD k 0 = l.getD k 0 := by
  simp [List.getD, List.getElem?_append_left h]
theorem getD_snoc_eq {l : List Nat} {x k : Nat} (h : k = l.length) : (l ++ [x]).getD k 0 = x := by
  subst h; simp [List.getD]

theorem BFair.step {r b : Nat} {ats tks : List Nat} {T tok : Nat} (h : BFair r b ats tks T tok) {T' n : Nat} (hT : T ≤ T') (hn : n ≤ min b (tok + r * (T' - T))) :
    BFair r b (ats ++ [T']) (tks ++ [n]) T' (min b (tok + r * (T' - T)) - n) := by
  have hmb : min b (tok + r * (T' - T)) ≤ b := Nat.min_le_left _ _
  have hmr : min b (tok + r * (T' - T)) ≤ tok + r * (T' - T) := Nat.min_le_right _ _
  refine ⟨by simp [h.len], by omega, ?_, ?_⟩
  · intro k hk
    simp only [List.length_append, List.length_cons, List.length_nil] at hk
    by_cases hlt : k < ats.length
    · rw [getD_snoc_lt hlt]; have := h.at_le k hlt; omega
    · rw [getD_snoc_eq (by omega)]; exact Nat.le_refl _
  · intro k hk
    simp only [List.length_append, List.length_cons, List.length_nil] at hk
    by_cases hlt : k < ats.length
    · rw [getD_snoc_lt hlt, List.drop_append_of_le_length (by have := h.len; omega), List.sum_append]
      have h1 := h.sum k hlt
      have h2 := h.at_le k hlt
      have e : r * (T' - ats.getD k 0) = r * (T - ats.getD k 0) + r * (T' - T) := by
        rw [← Nat.mul_add]; congr 1; omega
      simp only [List.sum_cons, List.sum_nil]
      omega
    · have hk' : k = ats.length := by omega
      rw [getD_snoc_eq hk', hk', h.len]
      simp
      omega

/-- A bucket at tick T that is looked at later. -/
theorem fill_at {r b T tok T' : Nat} (ht : tok ≤ b) (hT : T ≤ T') : (Bk.mk r b T tok).fill T' = ⟨r, b, T', min b (tok + r * (T' - T))⟩ := by
  by_cases h : T' ≤ T
  · have e : T' = T := by omega
    subst e
    rw [Bk.fill_le (by exact Nat.le_refl _)]
    simp [Nat.min_eq_right ht]
  · rw [Bk.fill_gt h]

/-- The sum from place k on. -/
theorem sum_drop {l : List Nat} {k : Nat} (h : k < l.length) : (l.drop k).sum = l.getD k 0 + (l.drop (k + 1)).sum := by
  rw [List.drop_eq_getElem_cons h, List.sum_cons]
  simp [List.getD, h]
/-- Never there: not at the last tick either. -/
theorem wait_never {B : Bk} (hk : B.Ok) {n : Nat} (h : B.tok < n) (hw : (B.when n).2 = false) : (B.when n).1 = 0 ∧ B.can 18446744073709551615 n = false := by
  have hn : ¬ n ≤ B.tok := by omega
  have ht := hk.tick
  have key : (B.fill 18446744073709551615).tok < n → B.can 18446744073709551615 n = false := fun h => Bk.can_no (by omega)
  have hmin : (B.fill 18446744073709551615).tok ≤ B.tok + B.rate * (18446744073709551615 - B.tick) ∧ (B.fill 18446744073709551615).tok ≤ B.burst := by
    by_cases hle : 18446744073709551615 ≤ B.tick
    · rw [Bk.fill_le hle]; exact ⟨by omega, hk.tok⟩
    · rw [Bk.fill_gt hle]; exact ⟨Nat.min_le_right _ _, Nat.min_le_left _ _⟩
  by_cases hb : B.burst < n ∨ B.rate = 0
  · rw [Bk.when_never hn hb]
    refine ⟨rfl, key ?_⟩
    rcases hb with hb | hb
    · omega
    · rw [hb] at hmin; omega
  · by_cases h2 : B.tick + B.ticks n < 18446744073709551616
    · rw [Bk.when_later hn hb h2] at hw; cases hw
    · rw [Bk.when_past hn hb h2]
      refine ⟨rfl, key ?_⟩
      unfold Bk.ticks at h2
      have hm : B.rate * (18446744073709551615 - B.tick) ≤ B.rate * ((n - B.tok - 1) / B.rate) := Nat.mul_le_mul_left _ (by omega)
      have hd : B.rate * ((n - B.tok - 1) / B.rate) ≤ n - B.tok - 1 := Nat.mul_div_le _ _
      omega

/-- There at a tick behind its own: at that one, and at none before. -/
theorem wait_then {B : Bk} {n : Nat} (h : B.tok < n) (hw : (B.when n).2 = true) :
    B.tick < (B.when n).1 ∧ (B.when n).1 < 18446744073709551616 ∧ B.can ((B.when n).1 - 1) n = false ∧ B.can (B.when n).1 n = true := by
  have hn : ¬ n ≤ B.tok := by omega
  by_cases hb : B.burst < n ∨ B.rate = 0
  · rw [Bk.when_never hn hb] at hw; cases hw
  · by_cases h2 : B.tick + B.ticks n < 18446744073709551616
    · rw [Bk.when_later hn hb h2]
      have hr : 0 < B.rate := by omega
      have hd : B.rate * ((n - B.tok - 1) / B.rate) ≤ n - B.tok - 1 := Nat.mul_div_le _ _
      have hl : n - B.tok - 1 < B.rate * ((n - B.tok - 1) / B.rate) + B.rate := by
        have := Nat.lt_mul_div_succ (n - B.tok - 1) hr
        rw [Nat.mul_add, Nat.mul_one] at this
        exact this
      unfold Bk.ticks at h2 ⊢
      generalize (n - B.tok - 1) / B.rate = q at *
      refine ⟨by show B.tick < B.tick + (q + 1); omega, h2, ?_, ?_⟩
      · show B.can (B.tick + (q + 1) - 1) n = false
        rw [show B.tick + (q + 1) - 1 = B.tick + q by omega]
        refine Bk.can_no ?_
        by_cases hq : B.tick + q ≤ B.tick
        · rw [Bk.fill_le hq]; omega
        · rw [Bk.fill_gt hq]
          show ¬ n ≤ min B.burst (B.tok + B.rate * (B.tick + q - B.tick))
          rw [Nat.add_sub_cancel_left]
          have := Nat.min_le_right B.burst (B.tok + B.rate * q)
          omega
      · show B.can (B.tick + (q + 1)) n = true
        refine Bk.can_yes ?_
        rw [Bk.fill_gt (by omega)]
        show n ≤ min B.burst (B.tok + B.rate * (B.tick + (q + 1) - B.tick))
        rw [Nat.add_sub_cancel_left, Nat.mul_add, Nat.mul_one]
        exact Nat.le_min.2 ⟨by omega, by omega⟩
    · rw [Bk.when_past hn hb h2] at hw; cases hw

/-- At tick 0 nothing is filled. -/
theorem can_zero {B : Bk} (n : Nat) : B.can 0 n = decide (n ≤ B.tok) := by
  unfold Bk.can
  rw [Bk.fill_le (Nat.zero_le _)]
end Go.Proofs.Ythipfcmjpgbemaa

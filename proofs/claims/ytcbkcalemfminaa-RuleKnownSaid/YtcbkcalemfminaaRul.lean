/- RuleLeaves: its relations, rows of rules turned; Pick: walked. -/
import Derived.Test.YtcbkcalemfminaaRuh
import Derived.Test.YtcbkcalemfminaaRuj
import Derived.Test.YtcbkcalemfminaaRuk
import Derived.Laws.AppendOwnNone
import Derived.Deep.RegionLaw
namespace Go.Proofs.Ytcbkcalemfminaa
open Go.RowKit

theorem pick_any (i n : Int) (h0 : 0 < n) (hn : n ≤ 1000000) (w : World) :
    Calls Try.prog 11 #[.int .i64 i, .int .i64 n] w fun e w' => ∃ m : Nat, e = .returned (.int .i64 m) ∧ m < n ∧ w' = w := by
  have h1 : (i.tmod n) < n := Int.tmod_lt_of_pos i h0
  have h2 : -n < i.tmod n := by have := Int.lt_tmod_of_pos i h0; omega
  have h3 : 0 ≤ (i.tmod n + n).tmod n := Int.tmod_nonneg _ (by omega)
  have h4 : (i.tmod n + n).tmod n < n := Int.tmod_lt_of_pos _ h0
  go_enter Try.func11, Try.ntmps11
  go_wp2_with fail
  go_ret
  have h5 := Int.emod_nonneg (i.tmod n + n) (show n ≠ 0 by omega)
  have h6 := Int.emod_lt_of_pos (i.tmod n + n) h0
  obtain ⟨m, hm⟩ := Int.eq_ofNat_of_zero_le h5
  exact ⟨m, ret_int hm, by omega, rfl⟩

/-- What Class tells of a right rule. -/
theorem told_shape {R : Ru} (h : R.right = true) : ∃ n f : Int, toldRes R = .returned (.tuple #[.int .i64 n, .int .i64 f]) ∧ 0 ≤ n ∧ n < 8 ∧ ((f = 0) ∨ (f = 90 ∧ n = 0)) := by
  have hc := right_cls h
  unfold toldRes
  cases R.deny
  · exact ⟨R.cls, 0, rfl, hc.1, hc.2, .inl rfl⟩
  · exact ⟨0, 90, rfl, by decide, by decide, .inr ⟨rfl, rfl⟩⟩

/-- Ahead of each rule that may be left. -/
def SRel (W : World) (l : List Ru) (ds : List Nat) (i v : Value) (w : World) : Prop :=
  ∃ k : Nat, i = .int .i64 k ∧ k ≤ l.length ∧ OwnRules w W.heap.size v (livesTo l ds k) ∧ Below W.heap.size W w
/-- Whether it is among the dead. -/
def GRel (ds : List Nat) (k : Nat) (wf : World) (q g : Value) (w : World) : Prop :=
  ∃ j : Nat, q = .int .i64 j ∧ j ≤ ds.length ∧ g = .bool ((ds.take j).contains k) ∧ w = wf
theorem own_int_at {w : World} {B c j x : Nat} {a : Option Addr} {ds : List Nat} (h : w.ownsRow B 3 1 (.slice a ds.length c) ds.length (iCells ds)) (hj : ds[j]? = some x) : ∃ g, a = some ⟨g, 0, none⟩ ∧ g < w.heap.size ∧ w.cell? ⟨g, j, none⟩ = some (.int .i64 (x : Nat)) := by
  have hjl := (List.getElem?_eq_some_iff.1 hj).1
  rcases h.2 with ⟨_, h0⟩ | ⟨g, cap, cur, hv, _, hh, _, _, _, hx⟩
  · omega
  · injection hv with e1 _ _
    refine ⟨g, e1, lt_of_obj hh, (cell_of_block hh j).trans ?_⟩
    have h1 : (iCells ds)[j]? = some (.int .i64 (x : Nat)) := by simp [iCells, hj]
    rw [← hx, List.getElem?_take_of_lt (by omega)] at h1
    simpa using h1
theorem take_contains {ds : List Nat} {j k x : Nat} (hj : ds[j]? = some x) : (ds.take (j + 1)).contains k = ((ds.take j).contains k || (x == k)) := by
  rw [List.take_add_one, hj, Option.toList_some]
  rw [Bool.eq_iff_iff]
  simp only [List.contains_iff_mem, List.mem_append, List.mem_singleton, Bool.or_eq_true, beq_iff_eq]
  exact or_congr Iff.rfl eq_comm
theorem livesTo_len (l : List Ru) (ds : List Nat) (n : Nat) : (livesTo l ds n).length ≤ n := by
  unfold livesTo
  have := List.length_filterMap_le (fun i => if ds.contains i then none else l[i]?) (List.range n)
  simpa using this
theorem livesTo_mem {l : List Ru} {ds : List Nat} {n : Nat} {r : Ru} (h : r ∈ livesTo l ds n) : r ∈ l := by
  unfold livesTo at h
  obtain ⟨i, _, hi⟩ := List.mem_filterMap.1 h
  split at hi
  · cases hi
  · exact List.mem_of_getElem? hi
theorem rsCells_app (a b : List Ru) : rsCells (a ++ b) = rsCells a ++ rsCells b := by simp [rsCells]

/-- All are right: so are these. -/
theorem new_rights {w w' : World} {deny : Bool} {cls : Int} {l : List Ru} {e : Ending} (h : NewRes w deny cls l e w') (hl : l.length ≤ 64) (ho : (others deny cls).right = true) (hr : ∀ r ∈ l, r.right = true) :
    ∃ p, e = .returned (.tuple #[.pointer (some ⟨p, 0, none⟩), .int .i64 0]) ∧ IsC w' w.heap.size w'.heap.size p (others deny cls) l (List.replicate (l.length + 1) 0) ∧ Below w.heap.size w w' :=
  new_ok h hl (by
    rw [ho]
    have : (l.any fun r => !r.right) = false := List.any_eq_false.2 (fun r hr' => by rw [hr r hr']; decide)
    rw [this]
    rfl)

/-- A rule of a row of the call's own, stored anew. -/
theorem own_stored {w w' : World} {B : Nat} {l : List Ru} {r : Ru} {g cap i : Nat} {cur : Array Value} (hok : ∀ x ∈ l, x.Ok) (hr : r.Ok) (hg : B ≤ g) (hc : l.length ≤ cap) (hm : cap ≤ maxLen) (hcs : cur.size = cap * 44) (hx : cur.toList.take (l.length * 44) = rsCells l) (hi : i < l.length)
    (hS : Stored w w' g (cur.toList.take (i * 44) ++ r.cs ++ cur.toList.drop (i * 44 + r.cs.length)).toArray 43) : OwnRules w' B (.slice (some ⟨g, 0, none⟩) l.length cap) (l.set i r) := by
  have hok' : ∀ x ∈ l.set i r, x.Ok := fun x hx => (List.mem_or_eq_of_mem_set hx).elim (hok x) (fun e => e ▸ hr)
  have hcl : cur.toList.length = cap * 44 := by rw [Array.length_toList, hcs]
  have hrl := hr.len
  have hic : i * 44 + 44 ≤ cap * 44 := by omega
  refine ⟨by rw [rsCells_len hok'], .inr ⟨g, cap, _, by rw [List.length_set], hg, hS.blk, by rw [List.length_set]; exact hc, hm, ?_, ?_⟩⟩
  · rw [List.size_toArray]
    simp only [List.length_append, List.length_take, List.length_drop, hcl, hrl]
    omega
  · have e1 : l.set i r = l.take i ++ r :: l.drop (i + 1) := List.set_eq_take_append_cons_drop.trans (by rw [if_pos hi])
    have e2 : rsCells (l.take i) = cur.toList.take (i * 44) := by
      have h1 : rsCells l = rsCells (l.take i) ++ rsCells (l.drop i) := by rw [← rsCells_app, List.take_append_drop]
      have h2 : (rsCells (l.take i)).length = i * 44 := by rw [rsCells_len (fun x hx => hok x (List.mem_of_mem_take hx)), List.length_take]; omega
      have h3 : (rsCells l).take (i * 44) = rsCells (l.take i) := by rw [h1, List.take_append_of_le_length (by omega), List.take_of_length_le (by omega)]
      rw [← h3, ← hx, List.take_take]
      congr 1
      omega
    have e3 : rsCells (l.drop (i + 1)) = (cur.toList.take (l.length * 44)).drop (i * 44 + 44) := by
      have h1 : rsCells l = rsCells (l.take (i + 1)) ++ rsCells (l.drop (i + 1)) := by rw [← rsCells_app, List.take_append_drop]
      have h2 : (rsCells (l.take (i + 1))).length = i * 44 + 44 := by rw [rsCells_len (fun x hx => hok x (List.mem_of_mem_take hx)), List.length_take]; omega
      rw [hx, h1, ← h2, List.drop_left]
    rw [List.length_set, e1, rsCells_app]
    show List.take (l.length * 44) (cur.toList.take (i * 44) ++ r.cs ++ cur.toList.drop (i * 44 + r.cs.length)) = _
    have e4 : rsCells (r :: l.drop (i + 1)) = r.cs ++ rsCells (l.drop (i + 1)) := rfl
    rw [e4, e2, e3, hrl, List.append_assoc, List.take_append, List.take_append, List.drop_take]
    have l1 : (cur.toList.take (i * 44)).length = i * 44 := by rw [List.length_take, hcl]; omega
    rw [l1, hrl, List.take_of_length_le (show (cur.toList.take (i * 44)).length ≤ l.length * 44 by rw [l1]; omega), List.take_of_length_le (show r.cs.length ≤ l.length * 44 - i * 44 by rw [hrl]; omega)]
    congr 3

theorem KyAt.only {w w' : World} {b : Nat} {k : Ky} (h : KyAt w b k) {S : Nat → Prop} (hO : Only S w w') (hS : ¬ S b) : KyAt w' b k :=
  ⟨h.ok, Nat.lt_of_lt_of_le h.lt hO.size, fun j v hj => (World.cell?_of_block (a := ⟨b, 0 + j, none⟩) (hO.block b h.lt hS)).trans (h.rng j v hj)⟩
/-- What stays between the calls: the packet in its variable; what was handed in. -/
structure LSt (W w : World) (b : Nat) (k : Ky) : Prop where
  bel : Below W.heap.size W w
  key : KyAt w b k
  bge : W.heap.size ≤ b
theorem LSt.below {W w w' : World} {b : Nat} {k : Ky} (h : LSt W w b k) (hB : Below w.heap.size w w') : LSt W w' b k := ⟨h.bel.trans (hB.mono h.bel.size), h.key.below hB, h.bge⟩
theorem LSt.only {W w w' : World} {b : Nat} {k : Ky} (h : LSt W w b k) {S : Nat → Prop} (hO : Only S w w') (h1 : ¬ S b) (h2 : ∀ j, S j → W.heap.size ≤ j) : LSt W w' b k :=
  ⟨h.bel.trans (hO.below h.bel.size (fun j hj e => by have := h2 j e; omega)), h.key.only hO h1, h.bge⟩

/-! ### Rules appended onto nothing -/
/-- Nothing has no room. -/
def RZ (v : Value) : Prop := ∀ n c, v = .slice none n c → n = 0 ∧ c = 0
set_option maxRecDepth 100000 in
theorem wpList_append_rules {w : World} {ops : Array Oper} {rest : List Oper} {op : Oper} {a : Act} {Q : Exit → Act → World → Prop} (hgd : op.guard = none) (s x : Operand)
    (ho : op.op = .call { callee := .builtin .append, args := #[s, x], argTypes := #[22, 22] })
    {v : Value} {l : List Ru} (hs : a.eval s = .slice none 0 0) (hx : a.eval x = v) (hR : Rules w v l) (hZ : RZ v) (hlen : l.length ≤ 1000000)
    (h : ∀ v' w', OwnRules w' w.heap.size v' l → Below w.heap.size w w' → wpList Try.prog ops Q rest (a.put op.dst v') w') :
    wpList Try.prog ops Q (op :: rest) a w := by
  obtain ⟨i0, hi, hz0, hz1, hz2⟩ := info_parts info_ru
  have hok := hR.ok
  obtain ⟨ao, cap, rfl, hnone, hc⟩ := hR
  cases ao with
  | none =>
    obtain ⟨e1, e2⟩ := hZ _ _ rfl
    subst e2
    have hz : l = [] := List.eq_nil_of_length_eq_zero e1
    subst hz
    exact wpList_append_own_none hgd s x _ ho w.heap.size 43 i0 44 Try.underlying22 hi _ 0 [] hs (World.ownsRow_nil w _ _ _) hx (h _ _ (World.ownsRow_nil w _ _ _) (Below.refl _ _))
  | some ad =>
    have hsrc : ∀ j u, (rsCells l)[j]? = some u → w.cell? (ad.add j) = some u := by
      intro j u hu
      have hj := (List.getElem?_eq_some_iff.1 hu).1
      rw [rsCells_len hok] at hj
      obtain ⟨b, o, hx, hb, hA⟩ := hc (by omega)
      injection hx with hx
      subst hx
      rw [Addr.add_lit]
      exact rs_range hA j u hu
    refine wpList_append_own w hgd s x _ ho w.heap.size 43 i0 _ 44 104 Try.underlying22 hi hz0 hz1 hz2 rfl (by decide) (.slice none 0 0) 0 [] hs (World.ownsRow_nil w _ _ _) ad l.length cap (rsCells l) hx (rsCells_len hok) hsrc rsCells_one (by unfold maxLen; omega) (by omega) (Nat.le_refl _) (fun v' w' ho' hg' _ => h v' w' (by simpa using ho') ?_)
    exact ⟨hg'.os, hg'.tape, hg'.output, hg'.size, fun k hk => hg'.block k hk (by simp [Value.ownBlock])⟩

/-! ### Two rules, appended -/
theorem own_kept {w w' : World} {base : Nat} {e : TypeId} {size : Nat} {v : Value} {n : Nat} {xs : List Value} (h : w.ownsRow base e size v n xs) (hB : Below w.heap.size w w') : w'.ownsRow base e size v n xs :=
  own_only h (Below.only hB (fun _ => False)) (fun _ _ h => h)
theorem built_pair {r : Ru} (hr : r.Ok) (w : World) : (rowRow 22 2 #[(0, .agg r.arr), (1, .agg Ru.any.arr)]).run Try.prog w = .ok (.slice (some ⟨w.heap.size, 0, none⟩) 2 2) (w.alloc (.cells (rsCells [r, Ru.any]).toArray 43)) := by
  obtain ⟨i, hi, hz0, hz1, hz2⟩ := info_parts info_ru
  refine run_rowRow w _ _ 2 _ _ i _ Try.underlying22 hi hz0 (by rw [hz1]; decide) (by rw [hz1]; decide) ?_
  rw [hz1]
  obtain ⟨v, pr, ⟨⟨s, bs⟩, l⟩, ⟨⟨s', bs'⟩, l'⟩, a, b, c, d, e, f⟩ := r
  obtain ⟨x0, x1, x2, x3, x4, x5, x6, x7, x8, x9, x10, x11, x12, x13, x14, x15, rfl⟩ := len16 hr.s.1
  obtain ⟨y0, y1, y2, y3, y4, y5, y6, y7, y8, y9, y10, y11, y12, y13, y14, y15, rfl⟩ := len16 hr.d.1
  kernel_rfl
theorem pair_len {r : Ru} (hr : r.Ok) : (rsCells [r, Ru.any]).length = 2 * 44 := rsCells_len (fun x hx => by simp at hx; rcases hx with rfl | rfl; exact hr; exact Ru.any_ok)
theorem any_right : Ru.any.right = true := by kernel_rfl

/-! ### Two side by side, in a row of the call's own -/
theorem own_open {w : World} {B n c : Nat} {a : Option Addr} {L : List Ru} (h : w.ownsRow B 43 44 (.slice a n c) L.length (rsCells L)) (h0 : 0 < L.length) :
    ∃ g cur, a = some ⟨g, 0, none⟩ ∧ B ≤ g ∧ w.heap[g]? = some (.cells cur 43 (0, 0)) ∧ L.length ≤ c ∧ c ≤ maxLen ∧ cur.size = c * 44 ∧ cur.toList.take (L.length * 44) = rsCells L := by
  rcases h.2 with ⟨_, e⟩ | ⟨g, cap, cur, hv, hg, hh, hc, hm, hs, hx⟩
  · omega
  · injection hv with e1 _ e3
    subst e3
    exact ⟨g, cur, e1, hg, hh, hc, hm, hs, hx⟩
theorem set_swap {l : List Ru} {m : Nat} {r s : Ru} (hr : l[m]? = some r) (hs : l[m + 1]? = some s) : ∃ a b, l = a ++ r :: s :: b ∧ (l.set m s).set (m + 1) r = a ++ s :: r :: b := by
  obtain ⟨h1, e1⟩ := List.getElem?_eq_some_iff.1 hr
  obtain ⟨h2, e2⟩ := List.getElem?_eq_some_iff.1 hs
  have e : l = l.take m ++ r :: s :: l.drop (m + 2) := by
    have h3 : l.drop m = r :: s :: l.drop (m + 2) := by rw [List.drop_eq_getElem_cons h1, e1, List.drop_eq_getElem_cons h2, e2]
    rw [← h3, List.take_append_drop]
  have hm : (l.take m).length = m := by rw [List.length_take]; omega
  refine ⟨l.take m, l.drop (m + 2), e, ?_⟩
  generalize l.take m = A at *
  generalize l.drop (m + 2) = B at *
  subst e
  subst hm
  simp [List.set_append]
end Go.Proofs.Ytcbkcalemfminaa

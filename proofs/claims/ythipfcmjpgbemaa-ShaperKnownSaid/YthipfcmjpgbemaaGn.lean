/- The document's shaper as it lies in memory: three rows of records of four cells. -/
import Derived.Test.YthipfcmjpgbemaaGm
import Derived.Test.YthipfcmjpgbemaaGl
import Derived.Test.YthipfcmjpgbemaaGk
import Derived.Deep.DeepCutAuto
import Derived.Deep.RegionWith
import Derived.Deep.CutBlock
namespace Go.Proofs.Ythipfcmjpgbemaa
open Go.RowKit

/-- Records of four cells in a row of one's own. -/
structure R4 (w : World) (B : Nat) (ty : TypeId) (v : Value) (rs : List (List Value)) : Prop where
  row : w.ownsRow B ty 4 v rs.length rs.flatten
  len : ∀ r ∈ rs, r.length = 4

theorem flat4_len : ∀ {rs : List (List Value)}, (∀ r ∈ rs, r.length = 4) → rs.flatten.length = rs.length * 4
  | [], _ => rfl
  | r :: rs, h => by
    rw [List.flatten_cons, List.length_append, h r (List.mem_cons_self ..), flat4_len (fun x hx => h x (List.mem_cons_of_mem _ hx)), List.length_cons]
    omega
theorem flat4_at : ∀ {rs : List (List Value)} {c : Nat} {r : List Value}, (∀ r ∈ rs, r.length = 4) → rs[c]? = some r → ∀ j, j < 4 → rs.flatten[c * 4 + j]? = r[j]?
  | [], c, r, _, h, j, _ => by simp at h
  | x :: rs, 0, r, hl, h, j, hj => by
    simp at h
    subst h
    have := hl x (List.mem_cons_self ..)
    rw [List.flatten_cons, List.getElem?_append_left (by omega), Nat.zero_mul, Nat.zero_add]
  | x :: rs, c + 1, r, hl, h, j, hj => by
    have h1 := hl x (List.mem_cons_self ..)
    rw [List.flatten_cons, List.getElem?_append_right (by omega), h1, show (c + 1) * 4 + j - 4 = c * 4 + j by omega]
    exact flat4_at (fun y hy => hl y (List.mem_cons_of_mem _ hy)) (by simpa using h) j hj
theorem flat4_take : ∀ {rs : List (List Value)} (c : Nat), (∀ r ∈ rs, r.length = 4) → (rs.take c).flatten = rs.flatten.take (c * 4)
  | [], c, _ => by simp
  | x :: rs, 0, _ => by simp
  | x :: rs, c + 1, hl => by
    have h1 := hl x (List.mem_cons_self ..)
    rw [List.take_succ_cons, List.flatten_cons, List.flatten_cons, flat4_take c (fun y hy => hl y (List.mem_cons_of_mem _ hy)), List.take_append, List.take_of_length_le (l := x) (i := (c + 1) * 4) (by omega), h1, show (c + 1) * 4 - 4 = c * 4 by omega]
theorem flat4_drop : ∀ {rs : List (List Value)} (c : Nat), (∀ r ∈ rs, r.length = 4) → (rs.drop c).flatten = rs.flatten.drop (c * 4)
  | [], c, _ => by simp
  | x :: rs, 0, _ => by simp
  | x :: rs, c + 1, hl => by
    have h1 := hl x (List.mem_cons_self ..)
    rw [List.drop_succ_cons, List.flatten_cons, flat4_drop c (fun y hy => hl y (List.mem_cons_of_mem _ hy)), List.drop_append, show List.drop ((c + 1) * 4) x = [] from List.drop_eq_nil_of_le (by omega), h1, show (c + 1) * 4 - 4 = c * 4 by omega, List.nil_append]

section
variable {w w' : World} {B : Nat} {ty : TypeId} {v : Value} {rs : List (List Value)}
theorem R4.keep (h : R4 w B ty v rs) {T : Nat → Prop} (hO : Only T w w') (hT : ∀ k, v.ownBlock = some k → ¬ T k) : R4 w' B ty v rs := ⟨own_only h.row hO hT, h.len⟩
theorem R4.below (h : R4 w B ty v rs) (hB : Below w.heap.size w w') : R4 w' B ty v rs := h.keep (Below.only hB (fun _ => False)) (fun _ _ h => h)
theorem R4.typ (h : R4 w B ty v rs) {k : Nat} (hk : v.ownBlock = some k) : ∃ c, w.heap[k]? = some (.cells c ty (0, 0)) := row_type h.row k hk
/-- Where a record lies. -/
theorem R4.at (h : R4 w B ty v rs) {c : Nat} {r : List Value} (hc : rs[c]? = some r) :
    ∃ g cap cur, v = .slice (some ⟨g, 0, none⟩) rs.length cap ∧ B ≤ g ∧ w.heap[g]? = some (.cells cur ty (0, 0)) ∧ rs.length ≤ cap ∧ cap ≤ maxLen ∧ cur.size = cap * 4 ∧ cur.toList.take (rs.length * 4) = rs.flatten ∧ ∀ j, j < 4 → w.cell? ⟨g, c * 4 + j, none⟩ = r[j]? := by
  have hcl := (List.getElem?_eq_some_iff.1 hc).1
  rcases h.row.2 with ⟨_, h0⟩ | ⟨g, cap, cur, hv, hg, hh, hnc, hcm, hcs, hx⟩
  · omega
  · refine ⟨g, cap, cur, hv, hg, hh, hnc, hcm, hcs, hx, fun j hj => ?_⟩
    rw [cell_of_block hh, ← flat4_at h.len hc j hj, ← hx, List.getElem?_take_of_lt (by omega)]
    simp
theorem R4.shape (h : R4 w B ty v rs) : ∃ a cap, v = .slice a rs.length cap := own_shape h.row
theorem R4.lt (h : R4 w B ty v rs) {k : Nat} (hk : v.ownBlock = some k) : B ≤ k ∧ k < w.heap.size := ⟨own_ge h.row k hk, own_lt h.row k hk⟩
/-- One record in place of another, whatever the cells were. -/
theorem r4_put {g cap c : Nat} {cur cur' : Array Value} {r' : List Value} (hl : ∀ r ∈ rs, r.length = 4) (hr : r'.length = 4) (hg : B ≤ g) (hc : c < rs.length) (hnc : rs.length ≤ cap) (hcm : cap ≤ maxLen) (hcs : cur.size = cap * 4) (hx : cur.toList.take (rs.length * 4) = rs.flatten)
    (hb : w'.heap[g]? = some (.cells cur' ty (0, 0))) (he : cur'.toList = cur.toList.take (c * 4) ++ r' ++ cur.toList.drop (c * 4 + 4)) : R4 w' B ty (.slice (some ⟨g, 0, none⟩) rs.length cap) (rs.set c r') := by
  have hl' : ∀ r ∈ rs.set c r', r.length = 4 := fun r h => (List.mem_or_eq_of_mem_set h).elim (hl r) (fun e => e ▸ hr)
  have hcl : cur.toList.length = cap * 4 := by rw [Array.length_toList, hcs]
  refine ⟨⟨by rw [flat4_len hl'], .inr ⟨g, cap, cur', by rw [List.length_set], hg, hb, by rw [List.length_set]; exact hnc, hcm, ?_, ?_⟩⟩, hl'⟩
  · rw [← Array.length_toList, he]
    simp only [List.length_append, List.length_take, List.length_drop, hcl, hr]
    omega
  · have e1 : rs.set c r' = rs.take c ++ r' :: rs.drop (c + 1) := List.set_eq_take_append_cons_drop.trans (by rw [if_pos hc])
    have hfl := flat4_len hl
    have h1 : (cur.toList.take (c * 4)).length = c * 4 := by rw [List.length_take]; omega
    have h2 : (cur.toList.take (c * 4) ++ r').length = (c + 1) * 4 := by rw [List.length_append, h1, hr]; omega
    rw [List.length_set, e1, List.flatten_append, List.flatten_cons, flat4_take c hl, flat4_drop (c + 1) hl, he, ← hx, ← List.append_assoc, show rs.length * 4 = (c + 1) * 4 + (rs.length * 4 - (c + 1) * 4) by omega, ← h2, List.take_length_add_append, h2]
    congr 1
    · congr 1
      rw [List.take_take]
      congr 1
      omega
    · rw [List.drop_take, show c * 4 + 4 = (c + 1) * 4 by omega]
      congr 1
      omega
theorem R4.stored {c g n cap : Nat} {cur : Array Value} {r r' : List Value} (h : R4 w B ty v rs) (hc : rs[c]? = some r) (hv : v = .slice (some ⟨g, 0, none⟩) n cap) (hcur : w.heap[g]? = some (.cells cur ty (0, 0))) (hr : r'.length = 4) (hS : Stored w w' g (cur.toList.take (c * 4) ++ r' ++ cur.toList.drop (c * 4 + r'.length)).toArray ty) : R4 w' B ty v (rs.set c r') := by
  obtain ⟨g', cap', cur', hv', hg, hh, hnc, hcm, hcs, hx, -⟩ := h.at hc
  rw [hv] at hv'
  injection hv' with e1 e2 e3
  injection e1 with e1
  injection e1 with e1
  subst e1 e2 e3
  rw [hcur] at hh
  injection hh with hh
  injection hh with hh _ _
  subst hh
  subst hv
  exact r4_put h.len hr hg (List.getElem?_eq_some_iff.1 hc).1 hnc hcm hcs hx hS.blk (by rw [hr])
theorem set_mid {l : List Value} {a b : List Value} {c j : Nat} {r : List Value} {u : Value} (hl : l = a ++ r ++ b) (ha : a.length = c) (hj : j < r.length) : l.set (c + j) u = a ++ r.set j u ++ b := by
  subst hl
  rw [List.append_assoc, List.set_append_right _ _ (by omega), show c + j - a.length = j by omega, List.set_append_left _ _ hj, List.append_assoc]
theorem R4.cell {c j g n cap : Nat} {r : List Value} {u : Value} (h : R4 w B ty v rs) (hc : rs[c]? = some r) (hv : v = .slice (some ⟨g, 0, none⟩) n cap) (hj : j < 4) : R4 (w.setCell ⟨g, c * 4 + j, none⟩ u) B ty v (rs.set c (r.set j u)) := by
  obtain ⟨g', cap', cur, hv', hg, hh, hnc, hcm, hcs, hx, -⟩ := h.at hc
  rw [hv] at hv'
  injection hv' with e1 e2 e3
  injection e1 with e1
  injection e1 with e1
  subst e1 e2 e3
  subst hv
  have hcl := (List.getElem?_eq_some_iff.1 hc).1
  have hr := h.len r (List.mem_of_getElem? hc)
  have hlen : cur.toList.length = cap * 4 := by rw [Array.length_toList, hcs]
  refine r4_put h.len (by rw [List.length_set]; exact hr) hg hcl hnc hcm hcs hx (setCell_block hh _ _) ?_
  rw [Array.toList_setIfInBounds]
  refine set_mid (r := r) ?_ (by rw [List.length_take]; omega) (by omega)
  have e2 : (cur.toList.drop (c * 4)).take 4 = r := by
    apply List.ext_getElem?
    intro i
    by_cases hi : i < 4
    · rw [List.getElem?_take_of_lt hi, List.getElem?_drop]
      have h3 := flat4_at h.len hc i hi
      rw [← hx, List.getElem?_take_of_lt (by omega)] at h3
      exact h3
    · rw [List.getElem?_eq_none (by rw [List.length_take]; omega), List.getElem?_eq_none (by omega)]
  have e3 : cur.toList.drop (c * 4 + 4) = (cur.toList.drop (c * 4)).drop 4 := by rw [List.drop_drop]
  rw [e3, ← e2, List.append_assoc, List.take_append_drop, List.take_append_drop]
theorem R4.fr (h : R4 w B ty v rs) {g n cap : Nat} (h0 : 0 < rs.length) (hv : v = .slice (some ⟨g, 0, none⟩) n cap) (j : Nat) : w.frozen? ⟨g, j, none⟩ = false := by
  obtain ⟨g', cap', cur, hv', hg, hh, -⟩ := h.at (List.getElem?_eq_getElem h0)
  rw [hv] at hv'
  injection hv' with e1
  injection e1 with e1
  injection e1 with e1
  subst e1
  exact free_of_block hh j
end

/-- A class's records. -/
def bRow (L : Ln) : List Value := [.int .u64 L.B.rate, .int .u64 L.B.burst, .int .u64 L.B.tick, .int .u64 L.B.tok]
def qRow (y : Value) (L : Ln) : List Value := [y, .int .i64 L.Q.items, .int .i64 L.Q.bound, .int .u64 L.Q.drops]
def sRow (L : Ln) : List Value := [.int .u64 L.off, .int .u64 L.drp, .int .u64 L.out, .int .u64 L.byt]
/-- The document's shaper, as its cells are. -/
structure RP (w : World) (B p tick : Nat) (bv qv sv : Value) (rb rq rs : List (List Value)) : Prop where
  blk : w.heap[p]? = some (.cells #[.int .u64 tick, bv, qv, sv] 101 (0, 0))
  pb : B ≤ p
  b : R4 w B 109 bv rb
  q : R4 w B 104 qv rq
  s : R4 w B 111 sv rs
/-- The blocks that are written. -/
def RD (p : Nat) (bv qv sv : Value) (k : Nat) : Prop := k = p ∨ bv.ownBlock = some k ∨ qv.ownBlock = some k ∨ sv.ownBlock = some k

section
variable {w w' : World} {B p tick : Nat} {bv qv sv : Value} {rb rq rs : List (List Value)}
theorem RP.keep (h : RP w B p tick bv qv sv rb rq rs) {T : Nat → Prop} (hO : Only T w w') (hT : ∀ k, RD p bv qv sv k → ¬ T k) : RP w' B p tick bv qv sv rb rq rs :=
  ⟨hO.keep h.blk (hT p (.inl rfl)), h.pb, h.b.keep hO (fun k hk => hT k (.inr (.inl hk))), h.q.keep hO (fun k hk => hT k (.inr (.inr (.inl hk)))), h.s.keep hO (fun k hk => hT k (.inr (.inr (.inr hk))))⟩
theorem RP.below (h : RP w B p tick bv qv sv rb rq rs) (hB : Below w.heap.size w w') : RP w' B p tick bv qv sv rb rq rs := h.keep (Below.only hB (fun _ => False)) (fun _ _ h => h)
theorem RP.lt (h : RP w B p tick bv qv sv rb rq rs) {k : Nat} (hk : RD p bv qv sv k) : B ≤ k ∧ k < w.heap.size := by
  rcases hk with rfl | hk | hk | hk
  · exact ⟨h.pb, lt_of_obj h.blk⟩
  · exact h.b.lt hk
  · exact h.q.lt hk
  · exact h.s.lt hk
theorem RP.ty (h : RP w B p tick bv qv sv rb rq rs) {k : Nat} (hk : RD p bv qv sv k) : ∃ c t, w.heap[k]? = some (.cells c t (0, 0)) ∧ (t = 101 ∨ t = 109 ∨ t = 104 ∨ t = 111) := by
  rcases hk with rfl | hk | hk | hk
  · exact ⟨_, _, h.blk, .inl rfl⟩
  · obtain ⟨c, hc⟩ := h.b.typ hk; exact ⟨c, _, hc, .inr (.inl rfl)⟩
  · obtain ⟨c, hc⟩ := h.q.typ hk; exact ⟨c, _, hc, .inr (.inr (.inl rfl))⟩
  · obtain ⟨c, hc⟩ := h.s.typ hk; exact ⟨c, _, hc, .inr (.inr (.inr rfl))⟩
theorem ty_apart {k : Nat} {c d : Array Value} {s t : TypeId} {f g : Nat × Nat} (ha : w.heap[k]? = some (.cells c s f)) (hb : w.heap[k]? = some (.cells d t g)) : s = t := by
  rw [ha] at hb
  injection hb with hb
  injection hb
theorem RP.c0 (h : RP w B p tick bv qv sv rb rq rs) : w.cell? ⟨p, 0, none⟩ = some (.int .u64 tick) := cell_of_block h.blk 0
theorem RP.c1 (h : RP w B p tick bv qv sv rb rq rs) : w.cell? ⟨p, 1, none⟩ = some bv := cell_of_block h.blk 1
theorem RP.c2 (h : RP w B p tick bv qv sv rb rq rs) : w.cell? ⟨p, 2, none⟩ = some qv := cell_of_block h.blk 2
theorem RP.c3 (h : RP w B p tick bv qv sv rb rq rs) : w.cell? ⟨p, 3, none⟩ = some sv := cell_of_block h.blk 3
/-- Only one row changes. -/
theorem RP.ne (h : RP w B p tick bv qv sv rb rq rs) : (∀ k, bv.ownBlock = some k → ¬ k = p ∧ ¬ qv.ownBlock = some k ∧ ¬ sv.ownBlock = some k) ∧ (∀ k, qv.ownBlock = some k → ¬ k = p ∧ ¬ sv.ownBlock = some k) ∧ (∀ k, sv.ownBlock = some k → ¬ k = p) := by
  refine ⟨fun k hk => ⟨fun e => ?_, fun e => ?_, fun e => ?_⟩, fun k hk => ⟨fun e => ?_, fun e => ?_⟩, fun k hk e => ?_⟩
  · obtain ⟨c, hc⟩ := h.b.typ hk; subst e; exact absurd (ty_apart hc h.blk) (by decide)
  · obtain ⟨c, hc⟩ := h.b.typ hk; obtain ⟨d, hd⟩ := h.q.typ e; exact absurd (ty_apart hc hd) (by decide)
  · obtain ⟨c, hc⟩ := h.b.typ hk; obtain ⟨d, hd⟩ := h.s.typ e; exact absurd (ty_apart hc hd) (by decide)
  · obtain ⟨c, hc⟩ := h.q.typ hk; subst e; exact absurd (ty_apart hc h.blk) (by decide)
  · obtain ⟨c, hc⟩ := h.q.typ hk; obtain ⟨d, hd⟩ := h.s.typ e; exact absurd (ty_apart hc hd) (by decide)
  · obtain ⟨c, hc⟩ := h.s.typ hk; subst e; exact absurd (ty_apart hc h.blk) (by decide)
theorem RP.inB {rb' : List (List Value)} (h : RP w B p tick bv qv sv rb rq rs) (hO : Only (fun k => bv.ownBlock = some k) w w') (hb : R4 w' B 109 bv rb') : RP w' B p tick bv qv sv rb' rq rs :=
  ⟨hO.keep h.blk (fun e => (h.ne.1 p e).1 rfl), h.pb, hb, h.q.keep hO (fun k hk e => (h.ne.1 k e).2.1 hk), h.s.keep hO (fun k hk e => (h.ne.1 k e).2.2 hk)⟩
theorem RP.inQ {rq' : List (List Value)} (h : RP w B p tick bv qv sv rb rq rs) (hO : Only (fun k => qv.ownBlock = some k) w w') (hb : R4 w' B 104 qv rq') : RP w' B p tick bv qv sv rb rq' rs :=
  ⟨hO.keep h.blk (fun e => (h.ne.2.1 p e).1 rfl), h.pb, h.b.keep hO (fun k hk e => (h.ne.1 k hk).2.1 e), hb, h.s.keep hO (fun k hk e => (h.ne.2.1 k e).2 hk)⟩
theorem RP.inS {rs' : List (List Value)} (h : RP w B p tick bv qv sv rb rq rs) (hO : Only (fun k => sv.ownBlock = some k) w w') (hb : R4 w' B 111 sv rs') : RP w' B p tick bv qv sv rb rq rs' :=
  ⟨hO.keep h.blk (fun e => (h.ne.2.2 p e) rfl), h.pb, h.b.keep hO (fun k hk e => (h.ne.1 k hk).2.2 e), h.q.keep hO (fun k hk e => (h.ne.2.1 k hk).2 e), hb⟩
theorem RP.inT (h : RP w B p tick bv qv sv rb rq rs) (t : Nat) : RP (w.setCell ⟨p, 0, none⟩ (.int .u64 t)) B p t bv qv sv rb rq rs ∧ Only (· = p) w (w.setCell ⟨p, 0, none⟩ (.int .u64 t)) := by
  have hO : Only (· = p) w (w.setCell ⟨p, 0, none⟩ (.int .u64 t)) := Only.setCell (S := (· = p)) (p := ⟨p, 0, none⟩) (Only.refl _ _) (fun _ => rfl) _
  exact ⟨⟨setCell_block h.blk 0 _, h.pb, h.b.keep hO (fun k hk => (h.ne.1 k hk).1), h.q.keep hO (fun k hk => (h.ne.2.1 k hk).1), h.s.keep hO (fun k hk => h.ne.2.2 k hk)⟩, hO⟩
end

/-- The document's shaper. -/
structure IsR (w : World) (B p : Nat) (bv qv sv : Value) (qs : List Value) (S : Sh) : Prop where
  rp : RP w B p S.tick bv qv sv (S.ls.map bRow) (List.zipWith qRow qs S.ls) (S.ls.map sRow)
  ql : qs.length = S.ls.length
  rl : ∀ (c : Nat) (L : Ln) (y : Value), S.ls[c]? = some L → qs[c]? = some y → RL w B y L.Q.L
theorem zip_at {qs : List Value} {ls : List Ln} {c : Nat} {y : Value} {L : Ln} (hy : qs[c]? = some y) (hL : ls[c]? = some L) : (List.zipWith qRow qs ls)[c]? = some (qRow y L) := by
  rw [List.getElem?_zipWith, hy, hL]
theorem zip_set {qs : List Value} {ls : List Ln} {c : Nat} {y : Value} {L : Ln} (hc : c < qs.length) (hl : qs.length = ls.length) : List.zipWith qRow (qs.set c y) (ls.set c L) = (List.zipWith qRow qs ls).set c (qRow y L) := by
  apply List.ext_getElem?
  intro d
  by_cases hd : d = c
  · subst hd
    rw [List.getElem?_zipWith, List.getElem?_set_self hc, List.getElem?_set_self (by omega), List.getElem?_set_self (by rw [List.length_zipWith]; omega)]
  · rw [List.getElem?_zipWith, List.getElem?_set_ne (by omega), List.getElem?_set_ne (by omega), List.getElem?_set_ne (by omega), List.getElem?_zipWith]
/-- Where the rows of the items lie is none of the blocks that are written. -/
theorem RL.tyR {w : World} {B : Nat} {v : Value} {L : List It} (h : RL w B v L) {k : Nat} (hk : v.ownBlock = some k) : ∃ c, w.heap[k]? = some (.cells c 42 (0, 0)) := by
  rcases h with ⟨rfl, _⟩ | ⟨g, o, c, cur, rfl, hg, hh, _⟩
  · simp [Value.ownBlock] at hk
  · obtain rfl : g = k := by injection hk
    exact ⟨cur, hh⟩
theorem RL.ne {w : World} {B B' p tick : Nat} {bv qv sv y : Value} {rb rq rs : List (List Value)} {L : List It} (h : RL w B' y L) (hP : RP w B p tick bv qv sv rb rq rs) {k : Nat} (hk : y.ownBlock = some k) : ¬ RD p bv qv sv k := fun e => by
  obtain ⟨c, hc⟩ := h.tyR hk
  obtain ⟨d, t, hd, ht⟩ := hP.ty e
  have := ty_apart hc hd
  subst this
  revert ht
  decide
theorem IsR.keep {w w' : World} {B p : Nat} {bv qv sv : Value} {qs : List Value} {S : Sh} (h : IsR w B p bv qv sv qs S) {T : Nat → Prop} (hO : Only T w w') (hT : ∀ k, RD p bv qv sv k → ¬ T k) (hQ : ∀ y ∈ qs, ∀ k, y.ownBlock = some k → ¬ T k) : IsR w' B p bv qv sv qs S :=
  ⟨h.rp.keep hO hT, h.ql, fun c L y hL hy => (h.rl c L y hL hy).keep hO (hQ y (List.mem_of_getElem? hy))⟩
theorem IsR.below {w w' : World} {B p : Nat} {bv qv sv : Value} {qs : List Value} {S : Sh} (h : IsR w B p bv qv sv qs S) (hB : Below w.heap.size w w') : IsR w' B p bv qv sv qs S := h.keep (Below.only hB (fun _ => False)) (fun _ _ h => h) (fun _ _ _ _ h => h)
theorem IsR.q {w : World} {B p : Nat} {bv qv sv : Value} {qs : List Value} {S : Sh} (h : IsR w B p bv qv sv qs S) {c : Nat} {L : Ln} (hL : S.ls[c]? = some L) : ∃ y, qs[c]? = some y ∧ RL w B y L.Q.L := by
  have hcl := (List.getElem?_eq_some_iff.1 hL).1
  obtain ⟨y, hy⟩ : ∃ y, qs[c]? = some y := ⟨_, List.getElem?_eq_getElem (by rw [h.ql]; exact hcl)⟩
  exact ⟨y, hy, h.rl c L y hL hy⟩
/-- The cells of a class. -/
theorem IsR.cells {w : World} {B p : Nat} {bv qv sv : Value} {qs : List Value} {S : Sh} (h : IsR w B p bv qv sv qs S) {c : Nat} {L : Ln} {y : Value} (hL : S.ls[c]? = some L) (hy : qs[c]? = some y) :
    ∃ gb gq gs cb cq cs, bv = .slice (some ⟨gb, 0, none⟩) S.ls.length cb ∧ qv = .slice (some ⟨gq, 0, none⟩) S.ls.length cq ∧ sv = .slice (some ⟨gs, 0, none⟩) S.ls.length cs ∧
      (∀ j, j < 4 → w.cell? ⟨gb, c * 4 + j, none⟩ = (bRow L)[j]?) ∧ (∀ j, j < 4 → w.cell? ⟨gq, c * 4 + j, none⟩ = (qRow y L)[j]?) ∧ (∀ j, j < 4 → w.cell? ⟨gs, c * 4 + j, none⟩ = (sRow L)[j]?) ∧ gb < w.heap.size ∧ gq < w.heap.size ∧ gs < w.heap.size := by
  obtain ⟨gb, cb, ub, e1, -, b1, -, -, -, -, h1⟩ := h.rp.b.at (r := bRow L) (c := c) (by rw [List.getElem?_map, hL]; rfl)
  obtain ⟨gq, cq, uq, e2, -, b2, -, -, -, -, h2⟩ := h.rp.q.at (zip_at hy hL)
  obtain ⟨gs, cs, us, e3, -, b3, -, -, -, -, h3⟩ := h.rp.s.at (r := sRow L) (c := c) (by rw [List.getElem?_map, hL]; rfl)
  rw [List.length_map] at e1 e3
  rw [List.length_zipWith, h.ql, Nat.min_self] at e2
  exact ⟨gb, gq, gs, cb, cq, cs, e1, e2, e3, h1, h2, h3, lt_of_obj b1, lt_of_obj b2, lt_of_obj b3⟩
end Go.Proofs.Ythipfcmjpgbemaa

/- The document's search for the head that goes out next: walked. -/
namespace Go.Proofs.Ythipfcmjpgbemaa
open Go.RowKit

theorem there_is {w : World} {B p : Nat} {bv qv sv : Value} {qs : List Value} {S : Sh} (h : IsR w B p bv qv sv qs S) (c : Int) :
    Calls Try.prog 58 #[ptr p, .int .i64 c] w fun e w' => e = .returned (.bool (decide (0 ≤ c ∧ c < S.ls.length))) ∧ w' = w := by
  have c2 := h.rp.c2
  obtain ⟨a, cap, e⟩ := h.rp.q.shape
  rw [List.length_zipWith, h.ql, Nat.min_self] at e
  subst e
  clear h
  generalize S.ls.length = n at *
  unfold ptr
  by_cases h0 : 0 ≤ c
  · by_cases h1 : c < n
    · rw [decide_eq_true ⟨h0, h1⟩]
      have hd : decide (c < (n : Int)) = true := decide_eq_true h1
      go_enter Try.func58, Try.ntmps58
      go_wp2_with fail
      go_ret
      exact ⟨rfl, rfl⟩
    · rw [decide_eq_false (fun h => h1 h.2)]
      have hd : decide (c < (n : Int)) = false := decide_eq_false h1
      go_enter Try.func58, Try.ntmps58
      go_wp2_with fail
      go_ret
      exact ⟨rfl, rfl⟩
  · rw [decide_eq_false (fun h => h0 h.1)]
    have hd : decide (0 ≤ c) = false := decide_eq_false h0
    go_enter Try.func58, Try.ntmps58
    go_wp2_with fail
    go_ret
    exact ⟨rfl, rfl⟩

set_option maxRecDepth 100000 in
theorem rwh_is {w : World} {B p n c : Nat} {bv qv sv : Value} {qs : List Value} {S : Sh} {L : Ln} (h : IsR w B p bv qv sv qs S) (hS : S.Ok n) (hL : S.ls[c]? = some L) :
    Calls Try.prog 68 #[ptr p, .int .i64 c] w fun e w' => e = .returned (.tuple #[.int .u64 (lnWhen S.tick L).1, .bool (lnWhen S.tick L).2]) ∧ Below w.heap.size w w' := by
  obtain ⟨y, hy, hrl⟩ := h.q hL
  obtain ⟨gb, gq, gs, cb, cq, cs, rfl, rfl, rfl, hb, hq, hs, hbl, hql, hsl⟩ := h.cells hL hy
  have c0 := h.rp.c0
  have c1 := h.rp.c1
  have c2 := h.rp.c2
  have q0 := hq 0 (by decide)
  have b0 := hb 0 (by decide)
  have b1 := hb 1 (by decide)
  have b2 := hb 2 (by decide)
  have b3 := hb 3 (by decide)
  have hp := lt_of_obj h.rp.blk
  have hcl : (c : Int) < (S.ls.length : Int) := by have := (List.getElem?_eq_some_iff.1 hL).1; omega
  have hLk := hS.ln L (List.mem_of_getElem? hL)
  obtain ⟨ya, yc, ey⟩ := hrl.shape
  subst ey
  simp only [Nat.add_zero] at q0 b0
  replace q0 : w.cell? ⟨gq, c * 4, none⟩ = some (.slice ya L.Q.L.length yc) := q0
  replace b0 : w.cell? ⟨gb, c * 4, none⟩ = some (.int .u64 L.B.rate) := b0
  replace b1 : w.cell? ⟨gb, c * 4 + 1, none⟩ = some (.int .u64 L.B.burst) := b1
  replace b2 : w.cell? ⟨gb, c * 4 + 2, none⟩ = some (.int .u64 L.B.tick) := b2
  replace b3 : w.cell? ⟨gb, c * 4 + 3, none⟩ = some (.int .u64 L.B.tok) := b3
  unfold ptr
  cases hQ : L.Q.L with
  | nil =>
    have hlw : lnWhen S.tick L = (0, false) := by unfold lnWhen; rw [hQ]
    rw [hlw]
    rw [hQ] at q0
    simp only [List.length_nil] at q0
    clear hlw
    clear h hS hL hy hrl hb hq hs hLk
    generalize S.ls.length = N at *
    go_enter Try.func68, Try.ntmps68
    go_wp2_with fail

    go_ret2
    exact ⟨rfl, Below.refl _ _⟩
  | cons x l =>
    have hlw : lnWhen S.tick L = (max (L.B.when x.size).1 S.tick, (L.B.when x.size).2) := by unfold lnWhen; rw [hQ]
    rw [hlw]
    clear hlw
    obtain ⟨gi, oi, eya, i0, i1, i2⟩ := hrl.at (i := 0) (x := x) (by rw [hQ]; rfl)
    subst eya
    have hsz := hLk.size x (by rw [hQ]; exact List.mem_cons_self ..)
    simp only [Nat.zero_mul, Nat.add_zero] at i1
    have hgi := (hrl.ge gi rfl).2
    obtain ⟨m, hm⟩ : ∃ m, L.Q.L.length = m := ⟨_, rfl⟩
    have hm0 : 0 < m := by rw [← hm, hQ]; simp
    have hm1 : ¬ (m : Int) = 0 := by omega
    have hmz : m ≠ 0 := by omega
    have hm2 : (0 : Int) < (m : Int) := by omega
    rw [hm] at q0
    have HW : Hid (∀ w', Below w.heap.size w w' → Calls Try.prog 72 #[.agg #[.int .u64 L.B.rate, .int .u64 L.B.burst, .int .u64 L.B.tick, .int .u64 L.B.tok], .int .u64 x.size] w' fun e w'' => e = .returned (.tuple #[.int .u64 (L.B.when x.size).1, .bool (L.B.when x.size).2]) ∧ Below w'.heap.size w' w'') :=
      Lib.hid fun w' _ => (rwhen_any L.B x.size hLk.B w').mono fun e w'' ⟨he, hO⟩ => ⟨he, hO.below (Nat.le_refl _) (fun _ _ h => h)⟩
    have hcz : ∀ (b j : Nat) (u : Value), b < w.heap.size → w.cell? ⟨b, j, none⟩ = some u → ∀ z : Wld (fun x => Below w.heap.size w x), z.w.cell? ⟨b, j, none⟩ = some u := fun b j u h1 h2 z => (z.ok.cell (p := ⟨b, j, none⟩) h1).trans h2
    have k1 := hcz _ _ _ hp c1
    have k2 := hcz _ _ _ hp c2
    have k3 := hcz _ _ _ hql q0
    have k4 := hcz _ _ _ hbl b0
    have k5 := hcz _ _ _ hbl b1
    have k6 := hcz _ _ _ hbl b2
    have k7 := hcz _ _ _ hbl b3
    have k8 := hcz _ _ _ hgi i1
    have hwx : IntKind.u64.wrap (x.size : Int) = (x.size : Int) := IntWalk.u64_in _ (by omega)
    haveI hne : Nonempty (Wld (fun x => Below w.heap.size w x)) := ⟨⟨w, Below.refl _ _⟩⟩
    clear h hS hL hy hrl hb hq hs hLk hcz hQ i0 i2 hm
    generalize S.ls.length = N at *
    generalize L.B.rate = br at *
    generalize L.B.burst = bb at *
    generalize L.B.tick = bt at *
    generalize L.B.tok = bk at *
    generalize x.size = xs at *
    obtain ⟨a, ev, hwe⟩ : ∃ a ev, L.B.when xs = (a, ev) := ⟨_, _, rfl⟩
    rw [hwe] at HW
    show Calls _ _ _ _ (fun e w' => e = .returned (.tuple #[.int .u64 (max (L.B.when xs).1 S.tick : Nat), .bool (L.B.when xs).2]) ∧ Below w.heap.size w w')
    rw [hwe]
    clear hwe
    generalize S.tick = st at *
    have hmx : max a st = if a < st then st else a := by split <;> omega
    rw [hmx]
    clear hmx
    by_cases hlt : a < st
    · rw [if_pos hlt]
      have hlti : (a : Int) < (st : Int) := by omega
      go_enter Try.func68, Try.ntmps68
      go_wp2_with fail
      clear c1 q0 b0 b1 b2 b3 i1
      refine region_class (fun x => Below w.heap.size w x) (by kernel_rfl) (by kernel_rfl) (Below.refl _ _).drew ?_
      repeat (go_big_quiet_step ((rename_i z; go_at_call 72; with_reducible refine Calls.mono (HW.out z.w z.ok) ?_; intro e w' h; obtain ⟨he, hb⟩ := h; exact ⟨he, ⟨w', z.ok.trans (hb.mono z.ok.size)⟩, rfl⟩)))
      refine wpQuiet_nil ?_
      intro w8 hB8
      have k0 := (hB8.cell (p := ⟨p, 0, none⟩) hp).trans c0
      have HB8 := Lib.hid hB8
      clear k1 k2 k3 k4 k5 k6 k7 k8 HW hB8 hne c0
      go_wp2_with fail
      go_ret2
      exact ⟨rfl, HB8.out⟩
    · rw [if_neg hlt]
      have hlti : ¬ (a : Int) < (st : Int) := by omega
      go_enter Try.func68, Try.ntmps68
      go_wp2_with fail
      clear c1 q0 b0 b1 b2 b3 i1
      refine region_class (fun x => Below w.heap.size w x) (by kernel_rfl) (by kernel_rfl) (Below.refl _ _).drew ?_
      repeat (go_big_quiet_step ((rename_i z; go_at_call 72; with_reducible refine Calls.mono (HW.out z.w z.ok) ?_; intro e w' h; obtain ⟨he, hb⟩ := h; exact ⟨he, ⟨w', z.ok.trans (hb.mono z.ok.size)⟩, rfl⟩)))
      refine wpQuiet_nil ?_
      intro w8 hB8
      have k0 := (hB8.cell (p := ⟨p, 0, none⟩) hp).trans c0
      have HB8 := Lib.hid hB8
      clear k1 k2 k3 k4 k5 k6 k7 k8 HW hB8 hne c0
      go_wp2_with fail
      go_ret2
      exact ⟨rfl, HB8.out⟩

/-- A search's place: -1 if it has found none. -/
def Fnd.which (f : Fnd) : Int := if f.ok = true then f.cls else -1
def RnRel (W : World) (tick : Nat) (ls : List Ln) (bvv wvv cv : Value) (w : World) : Prop :=
  ∃ c : Nat, cv = .int .i64 c ∧ c ≤ ls.length ∧ bvv = .int .u64 (nextL tick 0 ⟨0, 0, false⟩ (ls.take c)).at' ∧ wvv = .int .i64 (nextL tick 0 ⟨0, 0, false⟩ (ls.take c)).which ∧ Below W.heap.size W w
set_option maxRecDepth 100000 in
theorem rnext_is {w : World} {B p n : Nat} {bv qv sv : Value} {qs : List Value} {S : Sh} (h : IsR w B p bv qv sv qs S) (hS : S.Ok n) :
    Calls Try.prog 57 #[ptr p] w fun e w' => e = .returned (.tuple #[.int .u64 S.next.at', .int .i64 S.next.which]) ∧ Below w.heap.size w w' := by
  have c2 := h.rp.c2
  have hp := lt_of_obj h.rp.blk
  obtain ⟨a, cap, e⟩ := h.rp.q.shape
  rw [List.length_zipWith, h.ql, Nat.min_self] at e
  subst e
  have HH := Lib.hid (And.intro h hS)
  have hl8 := hS.len
  clear h hS
  unfold ptr
  go_enter Try.func57, Try.ntmps57
  go_wp2_with fail
  go_loopw [4, 5, 6] (RnRel w S.tick S.ls) (fun _ _ c _ => S.ls.length - (intOf c).toNat)
  case atStart => exact ⟨0, rfl, Nat.zero_le _, rfl, rfl, Below.refl _ _⟩
  case round =>
    obtain ⟨c, rfl, hc, rfl, rfl, hB⟩ := hrel
    have k2 := (hB.cell (p := ⟨p, 2, none⟩) hp).trans c2
    by_cases hlt : c < S.ls.length
    · obtain ⟨L, hL⟩ : ∃ L, S.ls[c]? = some L := ⟨_, List.getElem?_eq_getElem hlt⟩
      have hci : (c : Int) < (S.ls.length : Int) := by omega
      have hst : nextL S.tick 0 ⟨0, 0, false⟩ (S.ls.take (c + 1)) = lookL S.tick (nextL S.tick 0 ⟨0, 0, false⟩ (S.ls.take c)) c L := by
        rw [List.take_add_one, hL, Option.toList_some, nextL_snoc, Nat.zero_add, List.length_take_of_le (by omega)]
      have hfd := found_take S.tick S.ls c (by omega)
      have HW := Lib.hid (rwh_is (HH.out.1.below hB) HH.out.2 hL)
      have HST := Lib.hid hst
      have HB := Lib.hid hB
      generalize hf : nextL S.tick 0 ⟨0, 0, false⟩ (S.ls.take c) = f at *
      have hcls : f.ok = true → 0 ≤ f.cls := fun hk => by
        obtain ⟨d, M, e, -⟩ := hfd.yes hk
        rw [e]
        omega
      clear hL hst hB hfd hf
      unfold ptr at HW
      obtain ⟨at1, ev, hw⟩ : ∃ a ev, lnWhen S.tick L = (a, ev) := ⟨_, _, rfl⟩
      rw [hw] at HW
      go_wp2_with fail
      refine HW.out.mono ?_
      rintro e w2 ⟨rfl, hB2⟩
      have HB2 := Lib.hid (HB.out.trans (hB2.mono HB.out.size))
      clear HW hB2 k2
      have HR : Hid (∀ f', lookL S.tick f c L = f' → RnRel w S.tick S.ls (.int .u64 f'.at') (.int .i64 f'.which) (.int .i64 (c + 1 : Nat)) w2) := Lib.hid fun f' e => ⟨c + 1, rfl, hlt, by rw [HST.out, e], by rw [HST.out, e], HB2.out⟩
      cases ev with
      | false =>
        have hR := HR.out f (by unfold lookL; rw [hw, if_neg (by simp)])
        have HR := Lib.hid hR
        clear hR
        generalize f.which = fw at *
        go_wp2_with fail
        go_roundw
        case rel => exact HR.out
        case measure => simp [intOf]; omega
      | true =>
        cases hok : f.ok with
        | false =>
          have hR := HR.out ⟨at1, c, true⟩ (by unfold lookL; rw [hw, if_pos ⟨rfl, .inl hok⟩])
          have HR := Lib.hid hR
          have hfw : f.which = -1 := by unfold Fnd.which; rw [hok]; rfl
          rw [hfw]
          clear hR
          go_wp2_with fail
          go_roundw
          case rel => exact HR.out
          case measure => simp [intOf]; omega
        | true =>
          have h0 := hcls hok
          have hfw : f.which = f.cls := by unfold Fnd.which; rw [if_pos hok]
          have hwd : decide (f.cls < 0) = false := decide_eq_false (by omega)
          have hwn : ¬ f.cls < 0 := by omega
          by_cases hal : at1 < f.at'
          · have hR := HR.out ⟨at1, c, true⟩ (by unfold lookL; rw [hw, if_pos ⟨rfl, .inr hal⟩])
            have HR := Lib.hid hR
            have hali : (at1 : Int) < (f.at' : Int) := by omega
            have hald : decide (at1 < f.at') = true := decide_eq_true hal
            rw [hfw]
            clear hR
            go_wp2_with fail
            go_roundw
            case rel => exact HR.out
            case measure => simp [intOf]; omega
          · have hR := HR.out f (by unfold lookL; rw [hw, if_neg (by rw [hok]; simp; omega)])
            have HR := Lib.hid hR
            have hali : ¬ (at1 : Int) < (f.at' : Int) := by omega
            have hald : decide (at1 < f.at') = false := decide_eq_false hal
            rw [hfw] at HR ⊢
            clear hR
            go_wp2_with fail
            go_roundw
            case rel => exact HR.out
            case measure => simp [intOf]; omega
    · have hci : ¬ (c : Int) < (S.ls.length : Int) := by omega
      have e : nextL S.tick 0 ⟨0, 0, false⟩ (S.ls.take c) = S.next := by rw [List.take_of_length_le (by omega)]; rfl
      rw [e]
      have HB := Lib.hid hB
      clear hB e
      go_wp2_with fail
      go_ret2
      exact ⟨rfl, HB.out⟩
theorem rNext_is {w : World} {B p n : Nat} {bv qv sv : Value} {qs : List Value} {S : Sh} (h : IsR w B p bv qv sv qs S) (hS : S.Ok n) :
    Calls Try.prog 36 #[ptr p] w fun e w' => e = .returned (.tuple #[.int .u64 S.next.at', .bool S.next.ok]) ∧ Below w.heap.size w w' := by
  have HN := Lib.hid (rnext_is h hS)
  have hok : (0 : Int) ≤ S.next.which ↔ S.next.ok = true := by
    unfold Fnd.which
    cases hk : S.next.ok with
    | false => simp
    | true =>
      obtain ⟨d, M, e, -⟩ := S.found.yes hk
      rw [if_pos rfl, e]
      simp
  clear h hS
  generalize S.next.at' = na at *
  generalize S.next.which = nw at *
  unfold ptr at *
  cases hk : S.next.ok with
  | false =>
    rw [hk] at hok
    have h0 : ¬ (0 : Int) ≤ nw := fun h => by have := hok.1 h; cases this
    have hd : decide ((0 : Int) ≤ nw) = false := decide_eq_false h0
    clear hok hk
    go_enter Try.func36, Try.ntmps36
    go_wp2_with fail
    refine HN.out.mono ?_
    rintro e w1 ⟨rfl, hB⟩
    go_wp2_with fail
    go_ret2
    exact ⟨rfl, hB⟩
  | true =>
    rw [hk] at hok
    have h0 : (0 : Int) ≤ nw := hok.2 rfl
    have hd : decide ((0 : Int) ≤ nw) = true := decide_eq_true h0
    clear hok hk
    go_enter Try.func36, Try.ntmps36
    go_wp2_with fail
    refine HN.out.mono ?_
    rintro e w1 ⟨rfl, hB⟩
    go_wp2_with fail
    go_ret2
    exact ⟨rfl, hB⟩
end Go.Proofs.Ythipfcmjpgbemaa

/- The document's Offer: walked. -/
namespace Go.Proofs.Ythipfcmjpgbemaa
open Go.RowKit

/-- What may be of a queue. -/
structure QOk (Q : QS) : Prop where
  len : Q.L.length ≤ 65536
  its : Q.items ≤ 65536
  sum : sumQ Q.L ≤ Q.bound
  bnd : Q.bound ≤ 9223372036854775807
theorem QOk.rq {Q : QS} (h : QOk Q) {w : World} {B : Nat} {v : Value} (hR : RL w B v Q.L) : RQ w B v Q := ⟨hR, h.len, h.its, h.sum, h.bnd⟩
theorem Que.ok {w : World} {p : Nat} {r : Nat → Nat} {Q : QS} (h : Que w p r Q) : QOk Q := ⟨h.len, h.its, let ⟨_, _, _, _, h⟩ := h; h.sum, h.bnd⟩
theorem IsS.qok {w : World} {p : Nat} {O : Nat → Nat} {v : Value} {ps : List Nat} {S : Sh} (h : IsS w p O v ps S) : ∀ L ∈ S.ls, QOk L.Q := fun L hL => by
  obtain ⟨c, hc⟩ := List.mem_iff_getElem?.1 hL
  have hcl := (List.getElem?_eq_some_iff.1 hc).1
  obtain ⟨lp, hlp⟩ : ∃ lp, ps[c]? = some lp := ⟨_, List.getElem?_eq_getElem (by rw [h.len]; exact hcl)⟩
  obtain ⟨bp, qp, r, hI⟩ := h.ln c L lp hc hlp
  exact hI.q.ok

/-- What the document's shaper has turned, what it has got. -/
structure RChg (w w' : World) (p : Nat) (bv qv sv : Value) (qs qs' : List Value) : Prop where
  only : Only (RD p bv qv sv) w w'
  new : ∀ y ∈ qs', ∀ k, y.ownBlock = some k → (∃ y0 ∈ qs, y0.ownBlock = some k) ∨ w.heap.size ≤ k
theorem RChg.below {w w' : World} {p : Nat} {bv qv sv : Value} {qs : List Value} (h : Below w.heap.size w w') : RChg w w' p bv qv sv qs qs := ⟨Below.only h _, fun y hy k hk => .inl ⟨y, hy, hk⟩⟩
theorem RChg.trans {w w1 w2 : World} {p : Nat} {bv qv sv : Value} {qs qs1 qs2 : List Value} (h : RChg w w1 p bv qv sv qs qs1) (k : RChg w1 w2 p bv qv sv qs1 qs2) : RChg w w2 p bv qv sv qs qs2 := by
  refine ⟨h.only.trans k.only, fun y hy j hj => ?_⟩
  rcases k.new y hy j hj with ⟨y1, h1, e⟩ | e
  · exact h.new y1 h1 j e
  · exact .inr (Nat.le_trans h.only.size e)

theorem set_self {α : Type} {l : List α} {c : Nat} {x : α} (h : l[c]? = some x) : l.set c x = l := by
  apply List.ext_getElem?
  intro d
  by_cases hd : d = c
  · subst hd
    rw [List.getElem?_set_self (List.getElem?_eq_some_iff.1 h).1, h]
  · rw [List.getElem?_set_ne (by omega)]
theorem isR_set {w w' : World} {B p tick c : Nat} {bv qv sv y' : Value} {qs : List Value} {S : Sh} {L L' : Ln} {rb rq rs : List (List Value)} (h : IsR w B p bv qv sv qs S) (hL : S.ls[c]? = some L)
    (hP : RP w' B p tick bv qv sv rb rq rs) (hb : rb = (S.ls.map bRow).set c (bRow L')) (hq : rq = (List.zipWith qRow qs S.ls).set c (qRow y' L')) (hs : rs = (S.ls.map sRow).set c (sRow L')) (hy : RL w' B y' L'.Q.L) (hO : Only (RD p bv qv sv) w w') :
    IsR w' B p bv qv sv (qs.set c y') ⟨tick, S.ls.set c L'⟩ := by
  have hcl := (List.getElem?_eq_some_iff.1 hL).1
  refine ⟨?_, by rw [List.length_set]; show _ = (S.ls.set c L').length; rw [List.length_set]; exact h.ql, fun d M z hM hz => ?_⟩
  · show RP w' B p tick bv qv sv ((S.ls.set c L').map bRow) (List.zipWith qRow (qs.set c y') (S.ls.set c L')) ((S.ls.set c L').map sRow)
    rw [List.map_set, List.map_set, zip_set (by rw [h.ql]; exact hcl) h.ql, ← hb, ← hq, ← hs]
    exact hP
  · have hM : (S.ls.set c L')[d]? = some M := hM
    by_cases hd : d = c
    · subst hd
      rw [List.getElem?_set_self hcl] at hM
      rw [List.getElem?_set_self (by rw [h.ql]; exact hcl)] at hz
      injection hM with hM
      injection hz with hz
      subst hM hz
      exact hy
    · rw [List.getElem?_set_ne (by omega)] at hM hz
      exact (h.rl d M z hM hz).keep hO (fun k hk => (h.rl d M z hM hz).ne h.rp hk)
theorem rchg_set {w w' : World} {p c : Nat} {bv qv sv y y' : Value} {qs : List Value} (hy : qs[c]? = some y) (hO : Only (RD p bv qv sv) w w') (hn : ∀ j, y'.ownBlock = some j → y.ownBlock = some j ∨ w.heap.size ≤ j) : RChg w w' p bv qv sv qs (qs.set c y') :=
  ⟨hO, fun z hz k hk => (List.mem_or_eq_of_mem_set hz).elim (fun h => .inl ⟨z, h, hk⟩) (fun e => by
    subst e
    exact (hn k hk).elim (fun h => .inl ⟨y, List.mem_of_getElem? hy, h⟩) .inr)⟩

/-- Behind the document's Push: its answer lies in a block. -/
def DRel (w1 : World) (B : Nat) (y : Value) (Q' : QS) (c : Int) (u7 u8 : Value) (w : World) : Prop :=
  ∃ g a k, u7 = .pointer (some ⟨g, 0, none⟩) ∧ u8 = .int .i64 c ∧ w.heap[g]? = some (.cells #[.slice a Q'.L.length k, .int .i64 Q'.items, .int .i64 Q'.bound, .int .u64 Q'.drops] 104 (0, 0)) ∧
    RL w B (.slice a Q'.L.length k) Q'.L ∧ Below w1.heap.size w1 w ∧ (∀ j, (Value.slice a Q'.L.length k).ownBlock = some j → y.ownBlock = some j ∨ w1.heap.size ≤ j) ∧ w1.heap.size ≤ g
theorem new_in' {w w' : World} {cs : Array Value} {T : TypeId} (h : Below (w.alloc (.cells cs T)).heap.size (w.alloc (.cells cs T)) w') : w'.heap[w.heap.size]? = some (.cells cs T (0, 0)) :=
  (h.block w.heap.size (lt_of_obj (w := w.alloc (.cells cs T)) (alloc_block_new w _))).trans (alloc_block_new w _)

set_option maxRecDepth 100000 in
theorem rOffer_bad {w : World} {B p : Nat} {bv qv sv : Value} {qs : List Value} {S : Sh} (h : IsR w B p bv qv sv qs S) (c sz : Int) (no : Nat) (s : ByteArray) (hb : ¬ (0 ≤ c ∧ c < S.ls.length) ∨ sz < 0 ∨ 2048 < sz) :
    Calls Try.prog 40 #[ptr p, .int .i64 c, .agg #[.int .u64 no, .int .i64 sz, .string s]] w fun e w' => e = .returned (.int .i64 2) ∧ Below w.heap.size w w' := by
  have hA : Below w.heap.size w (w.alloc (.cells #[.int .u64 no, .int .i64 sz, .string s] 42)) := (Below.refl _ _).alloc (Nat.le_refl _) _
  have g := alloc_block_new w (.cells #[.int .u64 no, .int .i64 sz, .string s] 42)
  have HT := Lib.hid (there_is (h.below hA) c)
  have HA := Lib.hid hA
  have x1 : (w.alloc (.cells #[.int .u64 no, .int .i64 sz, .string s] 42)).cell? ⟨w.heap.size, 1, none⟩ = some (.int .i64 sz) := cell_of_block g 1
  clear h g hA
  unfold ptr at *
  generalize S.ls.length = N at *
  by_cases hc : 0 ≤ c ∧ c < N
  · rw [decide_eq_true hc] at HT
    by_cases h0 : sz < 0
    · have hd : decide (sz < 0) = true := decide_eq_true h0
      clear hb hc
      go_enter Try.func40, Try.ntmps40
      go_wp2_with fail
      refine HT.out.mono ?_
      rintro e w1 ⟨rfl, rfl⟩
      go_wp2_with fail
      go_ret
      exact ⟨rfl, HA.out⟩
    · have hd : decide (sz < 0) = false := decide_eq_false h0
      have h1 : 2048 < sz := by omega
      have hd1 : decide (2048 < sz) = true := decide_eq_true h1
      clear hb hc
      go_enter Try.func40, Try.ntmps40
      go_wp2_with fail
      refine HT.out.mono ?_
      rintro e w1 ⟨rfl, rfl⟩
      go_wp2_with fail
      go_ret
      exact ⟨rfl, HA.out⟩
  · rw [decide_eq_false hc] at HT
    clear hb hc
    go_enter Try.func40, Try.ntmps40
    go_wp2_with fail
    refine HT.out.mono ?_
    rintro e w1 ⟨rfl, rfl⟩
    go_wp2_with fail
    go_ret
    exact ⟨rfl, HA.out⟩
end Go.Proofs.Ythipfcmjpgbemaa

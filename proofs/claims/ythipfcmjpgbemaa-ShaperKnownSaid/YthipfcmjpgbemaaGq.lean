/- The classes as the document has them: walked. -/
import Derived.Test.YthipfcmjpgbemaaGo
import Derived.Test.YthipfcmjpgbemaaGj
namespace Go.Proofs.Ythipfcmjpgbemaa
open Go.RowKit

def cRow (x : Cl) : List Value := [.int .u64 x.rate, .int .u64 x.burst, .int .i64 x.items, .int .i64 x.size]
theorem info_rc : (Try.prog.info? 107).map (fun i => (i.zero, i.size, i.bytes)) = some (some (.agg #[.int .u64 0, .int .u64 0, .int .i64 0, .int .i64 0]), 4, 32) := by kernel_rfl
theorem four_new (w : World) (n : Nat) (hn : w.heap.size = n) (a b c d : Value) (e : TypeId) : ∀ j u, [a, b, c, d][j]? = some u → (w.alloc (.cells #[a, b, c, d] e)).cell? ((⟨n, 0, none⟩ : Addr).add j) = some u := by
  subst hn
  intro j u h
  have hj : j < 4 := (List.getElem?_eq_some_iff.1 h).1
  rw [Addr.add_lit, Nat.zero_add]
  refine (cell_of_block (alloc_block_new w _) j).trans ?_
  rcases (show j = 0 ∨ j = 1 ∨ j = 2 ∨ j = 3 by omega) with rfl | rfl | rfl | rfl <;> simpa using h
theorem r4_nil (w : World) (B : Nat) (ty : TypeId) : R4 w B ty (.slice none 0 0) [] := ⟨⟨rfl, .inl ⟨rfl, rfl⟩⟩, fun r hr => by cases hr⟩
/-- One record more. -/
theorem R4.app {wA w' : World} {B : Nat} {ty : TypeId} {v v' : Value} {rs : List (List Value)} {r : List Value} (h : R4 wA B ty v rs) (hr : r.length = 4) (hB : B ≤ wA.heap.size) (hown : w'.ownsRow 0 ty 4 v' (rs.length + 1) (rs.flatten ++ r)) (hb : v'.ownBlock = v.ownBlock ∨ v'.ownBlock = some wA.heap.size) : R4 w' B ty v' (rs ++ [r]) := by
  refine ⟨?_, fun x hx => ?_⟩
  · rw [List.length_append, List.flatten_append]
    simp only [List.length_cons, List.length_nil, List.flatten_cons, List.flatten_nil, List.append_nil, Nat.zero_add]
    refine own_raise hown (fun k hk => ?_)
    rcases hb with e | e
    · rw [e] at hk
      exact (h.lt hk).1
    · rw [e] at hk
      injection hk with hk
      omega
  · rcases List.mem_append.1 hx with h1 | h1
    · exact h.len x h1
    · simp at h1
      rw [h1]
      exact hr
theorem cls_cells {w : World} {a : Option Addr} {n cap : Nat} {l : List Cl} (h : Cls w (.slice a n cap) l) {c : Nat} {x : Cl} (hx : l[c]? = some x) :
    ∃ b o, a = some ⟨b, o, none⟩ ∧ b < w.heap.size ∧ w.cell? ⟨b, o + c * 4, none⟩ = some (.int .u64 x.rate) ∧ w.cell? ⟨b, o + c * 4 + 1, none⟩ = some (.int .u64 x.burst) ∧ w.cell? ⟨b, o + c * 4 + 2, none⟩ = some (.int .i64 x.items) ∧ w.cell? ⟨b, o + c * 4 + 3, none⟩ = some (.int .i64 x.size) := by
  obtain ⟨a', c', e, hc, h⟩ := h.sh
  injection e with e1 e2 e3
  subst e1
  obtain ⟨b, o, ea, hb, hj⟩ := h (by have := (List.getElem?_eq_some_iff.1 hx).1; omega)
  exact ⟨b, o, ea, hb, hj c x hx⟩
def KlRel (W : World) (l : List Cl) (ov iv : Value) (w : World) : Prop :=
  ∃ (k : Nat) (a : Option Addr) (c : Nat), iv = .int .i64 k ∧ k ≤ l.length ∧ ov = .slice a k c ∧ R4 w W.heap.size 107 ov ((l.take k).map cRow) ∧ Below W.heap.size W w
theorem kl_next {W wr wA w' : World} {l : List Cl} {x : Cl} {k : Nat} {oa va : Option Addr} {oc vc : Nat} (hR : R4 wr W.heap.size 107 (.slice oa k oc) ((l.take k).map cRow)) (hB : Below W.heap.size W wr) (hx : l[k]? = some x) (hA : Below wr.heap.size wr wA) (hws : wr.heap.size ≤ wA.heap.size)
    (hown : w'.ownsRow 0 107 4 (.slice va (k + 1) vc) (k + 1) (((l.take k).map cRow).flatten ++ cRow x)) (hg : wA.grownBy w' (Value.slice oa k oc).ownBlock) (hb : (Value.slice va (k + 1) vc).ownBlock = (Value.slice oa k oc).ownBlock ∨ (Value.slice va (k + 1) vc).ownBlock = some wA.heap.size) :
    KlRel W l (.slice va (k + 1) vc) (.int .i64 (k + 1 : Nat)) w' ∧ Below W.heap.size W w' := by
  have hlt := (List.getElem?_eq_some_iff.1 hx).1
  have hlen : ((l.take k).map cRow).length = k := by rw [List.length_map, List.length_take]; omega
  have hRA := hR.below hA
  have hO : Only (fun k' => (Value.slice oa k oc).ownBlock = some k') wA w' := (Only.refl _ _).grown hg (fun k' hk' _ => hk')
  have hs := hB.size
  have hBw : Below W.heap.size W w' := (hB.trans (hA.mono hs)).trans (hO.below (by omega) (fun j hj e => by have := (hRA.lt e).1; omega))
  refine ⟨⟨k + 1, va, vc, rfl, hlt, rfl, ?_, hBw⟩, hBw⟩
  · have e : (l.take (k + 1)).map cRow = (l.take k).map cRow ++ [cRow x] := by rw [List.take_add_one, hx]; simp
    rw [e]
    exact hRA.app rfl (by omega) (by rw [hlen]; exact hown) hb
def KlOk (W : World) (l : List Cl) (e : Ending) (w : World) : Prop := ∃ v, e = .returned v ∧ R4 w W.heap.size 107 v (l.map cRow) ∧ Below W.heap.size W w

set_option maxRecDepth 100000 in
theorem classes_is {w : World} {v : Value} {l : List Cl} (hl : Cls w v l) (hn : l.length ≤ 1000) :
    Calls Try.prog 21 #[v] w (KlOk w l) := by
  obtain ⟨a, c, rfl, -⟩ := id hl.sh
  have HL := Lib.hid hl
  clear hl
  go_enter Try.func21, Try.ntmps21
  go_wp2_with fail
  go_loopw [3, 4] (KlRel w l) (fun _ i _ => l.length - (intOf i).toNat)
  case atStart => exact ⟨0, none, 0, rfl, Nat.zero_le _, rfl, r4_nil _ _ _, Below.refl _ _⟩
  case round =>
    obtain ⟨k, oa, oc, rfl, hk, rfl, hR, hB⟩ := hrel
    by_cases hlt : k < l.length
    · obtain ⟨x, hx⟩ : ∃ x, l[k]? = some x := ⟨_, List.getElem?_eq_getElem hlt⟩
      obtain ⟨b, ob, rfl, hbl, d0, d1, d2, d3⟩ := cls_cells HL.out hx
      have hki : (k : Int) < (l.length : Int) := by omega
      have HX := Lib.hid (And.intro hR (And.intro hB hx))
      obtain ⟨i0, hi0, hz0, hz1, hz2⟩ := info_parts info_rc
      clear hR hx
      have hlen : ((l.take k).map cRow).length = k := by rw [List.length_map, List.length_take]; omega
      have HR3 : Hid (∀ z, Below wr.heap.size wr z → z.ownsRow 0 107 4 (.slice oa k oc) k (((l.take k).map cRow).flatten)) := Lib.hid fun z hz => by
        have h := own_lower ((HX.out.1.below hz).row) (Nat.zero_le _)
        rwa [hlen] at h
      have HBA : Hid (∀ o, Below wr.heap.size wr ((wr.alloc o).drew)) := Lib.hid fun o => ((Below.refl _ _).alloc (Nat.le_refl _) o).drew
      have HBD : Hid (∀ o, Below wr.heap.size wr ((wr.drew).alloc o)) := Lib.hid fun o => ((Below.refl _ _).drew).alloc (Nat.le_refl _) o
      have x0 := (hB.cell (p := ⟨b, _, none⟩) hbl).trans d0
      have x1 := (hB.cell (p := ⟨b, _, none⟩) hbl).trans d1
      have x2 := (hB.cell (p := ⟨b, _, none⟩) hbl).trans d2
      have x3 := (hB.cell (p := ⟨b, _, none⟩) hbl).trans d3
      clear hB
      go_wp2_with fail
      go_region_held3 (fun w' => w'.cell? ⟨b, ob + k * 4, none⟩ = some (.int .u64 x.rate) ∧ w'.cell? ⟨b, ob + k * 4 + 1, none⟩ = some (.int .u64 x.burst) ∧ w'.cell? ⟨b, ob + k * 4 + 2, none⟩ = some (.int .i64 x.items) ∧ w'.cell? ⟨b, ob + k * 4 + 3, none⟩ = some (.int .i64 x.size)) (go_keep)
        (first
          | (refine step_append_row rfl (.tmp 11) (.tmp 33) 61 rfl 107 i0 _ 4 32 Try.underlying61 hi0 hz0 hz1 hz2 rfl (by decide) (.slice oa k oc) k (((l.take k).map cRow).flatten) (by simp [go_sem]) (by first | exact HR3.out _ (HBA.out _) | exact HR3.out _ (HBD.out _)) ⟨wr.heap.size, 0, none⟩ 1 1 (cRow x) (by simp [go_sem]) rfl (four_new _ _ rfl _ _ _ _ _) (by intro u hu; simp [cRow] at hu; rcases hu with rfl | rfl | rfl | rfl <;> rfl) (by unfold maxLen; omega) (by omega) ?_
             intro v' w' hown hg hb
             obtain ⟨va, vc, ev⟩ := own_shape hown
             subst ev
             have HR : Hid (KlRel w l (.slice va (k + 1) vc) (.int .i64 (k + 1 : Nat)) w' ∧ Below w.heap.size w w') := Lib.hid (kl_next HX.out.1 HX.out.2.1 HX.out.2.2 (by first | exact HBA.out _ | exact HBD.out _) (by simp) hown hg hb)
             have i0 := (HR.out.2.cell (p := ⟨b, _, none⟩) hbl).trans d0
             have i1 := (HR.out.2.cell (p := ⟨b, _, none⟩) hbl).trans d1
             have i2 := (HR.out.2.cell (p := ⟨b, _, none⟩) hbl).trans d2
             have i3 := (HR.out.2.cell (p := ⟨b, _, none⟩) hbl).trans d3
             clear hown hg hb))
      all_goals
        go_wp2_with fail
        go_roundw
        case rel => exact HR.out.1
        case measure => simp [intOf]; omega
    · obtain rfl : k = l.length := by omega
      have HX := Lib.hid (And.intro hR hB)
      have hki : ¬ ((l.length : Nat) : Int) < (l.length : Int) := by omega
      clear hR hB
      go_wp2_with fail
      go_ret
      refine ⟨_, rfl, ?_, HX.out.2⟩
      have h := HX.out.1
      rw [List.take_length] at h
      exact h
end Go.Proofs.Ythipfcmjpgbemaa

/- The document's New: walked. -/
namespace Go.Proofs.Ythipfcmjpgbemaa
open Go.RowKit

theorem info_rb : (Try.prog.info? 109).map (fun i => (i.zero, i.size, i.bytes)) = some (some (.agg #[.int .u64 0, .int .u64 0, .int .u64 0, .int .u64 0]), 4, 32) := by kernel_rfl
theorem info_rqu : (Try.prog.info? 104).map (fun i => (i.zero, i.size, i.bytes)) = some (some (.agg #[.slice none 0 0, .int .i64 0, .int .i64 0, .int .u64 0]), 4, 48) := by kernel_rfl
theorem info_rs : (Try.prog.info? 111).map (fun i => (i.zero, i.size, i.bytes)) = some (some (.agg #[.int .u64 0, .int .u64 0, .int .u64 0, .int .u64 0]), 4, 32) := by kernel_rfl

theorem rnew_len {t : Nat} {w : World} {a : Option Addr} {n c : Nat} (hn : n = 0 ∨ 8 < n) :
    Calls Try.prog 20 #[.int .u64 t, .slice a n c] w fun e w' => e = .returned (.tuple #[.pointer none, .int .i64 2]) ∧ Below w.heap.size w w' := by
  rcases hn with rfl | hn
  · go_enter Try.func20, Try.ntmps20
    go_wp2_with fail
    go_ret2
    exact ⟨rfl, Below.refl _ _⟩
  · have h1 : (8 : Int) < (n : Int) := by omega
    have h2 : ¬ (n : Int) < 1 := by omega
    go_enter Try.func20, Try.ntmps20
    go_wp2_with fail
    go_ret2
    exact ⟨rfl, Below.refl _ _⟩

/-- One record more behind one of the rows, whose slice is laid down anew. -/
theorem RP.growB {w1 w2 : World} {B p tick : Nat} {bv qv sv v' : Value} {rb rq rs : List (List Value)} {r : List Value} (h : RP w1 B p tick bv qv sv rb rq rs) (hr : r.length = 4) (hB : B ≤ w1.heap.size) (hown : w2.ownsRow 0 109 4 v' (rb.length + 1) (rb.flatten ++ r)) (hg : w1.grownBy w2 bv.ownBlock) (hb : v'.ownBlock = bv.ownBlock ∨ v'.ownBlock = some w1.heap.size) :
    RP (w2.setCell ⟨p, 1, none⟩ v') B p tick v' qv sv (rb ++ [r]) rq rs ∧ Only (fun k => bv.ownBlock = some k ∨ k = p) w1 (w2.setCell ⟨p, 1, none⟩ v') := by
  have hO : Only (fun k => bv.ownBlock = some k) w1 w2 := (Only.refl _ _).grown hg (fun k hk _ => hk)
  have hOp : Only (· = p) w2 (w2.setCell ⟨p, 1, none⟩ v') := Only.setCell (S := (· = p)) (p := ⟨p, 1, none⟩) (Only.refl _ _) (fun _ => rfl) _
  have hpl := lt_of_obj h.blk
  have hvp : ∀ k, v'.ownBlock = some k → ¬ k = p := fun k hk e => by
    rcases hb with e2 | e2
    · rw [e2] at hk; exact (h.ne.1 k hk).1 e
    · rw [e2] at hk; injection hk with hk; omega
  refine ⟨⟨setCell_block (hO.keep h.blk (fun e => (h.ne.1 p e).1 rfl)) 1 v', h.pb, (h.b.app hr hB hown hb).keep hOp hvp, (h.q.keep hO (fun k hk e => (h.ne.1 k e).2.1 hk)).keep hOp (fun k hk => (h.ne.2.1 k hk).1), (h.s.keep hO (fun k hk e => (h.ne.1 k e).2.2 hk)).keep hOp (fun k hk => h.ne.2.2 k hk)⟩, (hO.mono fun k _ e => .inl e).trans (hOp.mono fun k _ e => .inr e)⟩
theorem RP.growQ {w1 w2 : World} {B p tick : Nat} {bv qv sv v' : Value} {rb rq rs : List (List Value)} {r : List Value} (h : RP w1 B p tick bv qv sv rb rq rs) (hr : r.length = 4) (hB : B ≤ w1.heap.size) (hown : w2.ownsRow 0 104 4 v' (rq.length + 1) (rq.flatten ++ r)) (hg : w1.grownBy w2 qv.ownBlock) (hb : v'.ownBlock = qv.ownBlock ∨ v'.ownBlock = some w1.heap.size) :
    RP (w2.setCell ⟨p, 2, none⟩ v') B p tick bv v' sv rb (rq ++ [r]) rs ∧ Only (fun k => qv.ownBlock = some k ∨ k = p) w1 (w2.setCell ⟨p, 2, none⟩ v') := by
  have hO : Only (fun k => qv.ownBlock = some k) w1 w2 := (Only.refl _ _).grown hg (fun k hk _ => hk)
  have hOp : Only (· = p) w2 (w2.setCell ⟨p, 2, none⟩ v') := Only.setCell (S := (· = p)) (p := ⟨p, 2, none⟩) (Only.refl _ _) (fun _ => rfl) _
  have hpl := lt_of_obj h.blk
  have hvp : ∀ k, v'.ownBlock = some k → ¬ k = p := fun k hk e => by
    rcases hb with e2 | e2
    · rw [e2] at hk; exact (h.ne.2.1 k hk).1 e
    · rw [e2] at hk; injection hk with hk; omega
  refine ⟨⟨setCell_block (hO.keep h.blk (fun e => (h.ne.2.1 p e).1 rfl)) 2 v', h.pb, (h.b.keep hO (fun k hk e => (h.ne.1 k hk).2.1 e)).keep hOp (fun k hk => (h.ne.1 k hk).1), (h.q.app hr hB hown hb).keep hOp hvp, (h.s.keep hO (fun k hk e => (h.ne.2.1 k e).2 hk)).keep hOp (fun k hk => h.ne.2.2 k hk)⟩, (hO.mono fun k _ e => .inl e).trans (hOp.mono fun k _ e => .inr e)⟩
theorem RP.growS {w1 w2 : World} {B p tick : Nat} {bv qv sv v' : Value} {rb rq rs : List (List Value)} {r : List Value} (h : RP w1 B p tick bv qv sv rb rq rs) (hr : r.length = 4) (hB : B ≤ w1.heap.size) (hown : w2.ownsRow 0 111 4 v' (rs.length + 1) (rs.flatten ++ r)) (hg : w1.grownBy w2 sv.ownBlock) (hb : v'.ownBlock = sv.ownBlock ∨ v'.ownBlock = some w1.heap.size) :
    RP (w2.setCell ⟨p, 3, none⟩ v') B p tick bv qv v' rb rq (rs ++ [r]) ∧ Only (fun k => sv.ownBlock = some k ∨ k = p) w1 (w2.setCell ⟨p, 3, none⟩ v') := by
  have hO : Only (fun k => sv.ownBlock = some k) w1 w2 := (Only.refl _ _).grown hg (fun k hk _ => hk)
  have hOp : Only (· = p) w2 (w2.setCell ⟨p, 3, none⟩ v') := Only.setCell (S := (· = p)) (p := ⟨p, 3, none⟩) (Only.refl _ _) (fun _ => rfl) _
  have hpl := lt_of_obj h.blk
  have hvp : ∀ k, v'.ownBlock = some k → ¬ k = p := fun k hk e => by
    rcases hb with e2 | e2
    · rw [e2] at hk; exact h.ne.2.2 k hk e
    · rw [e2] at hk; injection hk with hk; omega
  refine ⟨⟨setCell_block (hO.keep h.blk (fun e => h.ne.2.2 p e rfl)) 3 v', h.pb, (h.b.keep hO (fun k hk e => (h.ne.1 k hk).2.2 e)).keep hOp (fun k hk => (h.ne.1 k hk).1), (h.q.keep hO (fun k hk e => (h.ne.2.1 k hk).2 e)).keep hOp (fun k hk => (h.ne.2.1 k hk).1), (h.s.app hr hB hown hb).keep hOp hvp⟩, (hO.mono fun k _ e => .inl e).trans (hOp.mono fun k _ e => .inr e)⟩

/-- Ahead of each round. -/
def RnwRel (W : World) (t p : Nat) (l : List Cl) (iv : Value) (w : World) : Prop :=
  ∃ (k : Nat) (bv qv sv : Value), iv = .int .i64 k ∧ k ≤ l.length ∧ IsR w W.heap.size p bv qv sv (List.replicate k (.slice none 0 0)) ⟨t, (l.take k).map (newLn · t)⟩ ∧ Below W.heap.size W w ∧ ∀ j x, j < k → l[j]? = some x → x.may = true
def RnwOk (W : World) (t : Nat) (l : List Cl) (e : Ending) (w : World) : Prop :=
  (newB l = false ∧ e = .returned (.tuple #[.pointer none, .int .i64 2]) ∧ Below W.heap.size W w) ∨
  (newB l = true ∧ ∃ p bv qv sv qs, e = .returned (.tuple #[ptr p, .int .i64 0]) ∧ IsR w W.heap.size p bv qv sv qs ⟨t, l.map (newLn · t)⟩ ∧ Below W.heap.size W w)
/-- Behind the queue's New: its answer lies in a block. -/
def NDRel (w1 : World) (i s : Nat) (u8 u9 : Value) (w : World) : Prop :=
  ∃ g, u8 = .pointer (some ⟨g, 0, none⟩) ∧ u9 = .int .i64 0 ∧ w.heap[g]? = some (.cells #[.slice none 0 0, .int .i64 i, .int .i64 s, .int .u64 0] 104 (0, 0)) ∧ Below w1.heap.size w1 w ∧ w1.heap.size ≤ g
def NBRel (w1 : World) (u9 : Value) (w : World) : Prop := u9 = .int .i64 2 ∧ Below w1.heap.size w1 w

/-- Behind the first of the three appends. -/
def NB1Rel (W : World) (p t g8 : Nat) (q8 : Array Value) (qv sv : Value) (n : Nat) (rb rq rs : List (List Value)) (_ : Value) (w : World) : Prop :=
  ∃ (a : Option Addr) (c : Nat), RP w W.heap.size p t (.slice a n c) qv sv rb rq rs ∧ Below W.heap.size W w ∧ w.heap[g8]? = some (.cells q8 104 (0, 0))
def NB2Rel (W : World) (p t : Nat) (bv sv : Value) (n : Nat) (rb rq rs : List (List Value)) (_ : Value) (w : World) : Prop :=
  ∃ (a : Option Addr) (c : Nat), RP w W.heap.size p t bv (.slice a n c) sv rb rq rs ∧ Below W.heap.size W w
theorem nb1 {W wc wA w' : World} {p t g8 n : Nat} {q8 : Array Value} {bv qv sv : Value} {rb rq rs : List (List Value)} {r : List Value} {a : Option Addr} {c : Nat} (h : RP wc W.heap.size p t bv qv sv rb rq rs) (hB : Below W.heap.size W wc) (h8 : wc.heap[g8]? = some (.cells q8 104 (0, 0))) (hA : Below wc.heap.size wc wA) (hr : r.length = 4) (hn : rb.length = n)
    (hown : w'.ownsRow 0 109 4 (.slice a (n + 1) c) (n + 1) (rb.flatten ++ r)) (hg : wA.grownBy w' bv.ownBlock) (hb : (Value.slice a (n + 1) c).ownBlock = bv.ownBlock ∨ (Value.slice a (n + 1) c).ownBlock = some wA.heap.size) :
    (∀ u, NB1Rel W p t g8 q8 qv sv (n + 1) (rb ++ [r]) rq rs u (w'.setCell ⟨p, 1, none⟩ (.slice a (n + 1) c))) ∧ w'.heap[p]? = some (.cells #[.int .u64 t, bv, qv, sv] 101 (0, 0)) := by
  subst hn
  have hs := hB.size
  have hsA := hA.size
  have hPA := h.below hA
  obtain ⟨h1, h2⟩ := hPA.growB hr (by omega) hown hg hb
  have hbp : ∀ k, bv.ownBlock = some k ∨ k = p → W.heap.size ≤ k := fun k hk => by
    rcases hk with e | e
    · exact (h.b.lt e).1
    · subst e; exact h.pb
  have h8A := (hA.block _ (lt_of_obj h8)).trans h8
  refine ⟨fun u => ⟨a, c, h1, (hB.trans (hA.mono hs)).trans (h2.below (by omega) (fun k hk e => by have := hbp k e; omega)), h2.keep h8A (fun e => ?_)⟩, grown_keep hg hPA.blk (fun e => (hPA.ne.1 p e).1 rfl)⟩
  rcases e with e | e
  · obtain ⟨d, hd⟩ := hPA.b.typ e
    exact absurd (ty_apart h8A hd) (by decide)
  · subst e
    exact absurd (ty_apart h8A hPA.blk) (by decide)
theorem nb2 {W wc wA w' : World} {p t n : Nat} {bv qv sv : Value} {rb rq rs : List (List Value)} {r : List Value} {a : Option Addr} {c : Nat} (h : RP wc W.heap.size p t bv qv sv rb rq rs) (hB : Below W.heap.size W wc) (hA : Below wc.heap.size wc wA) (hr : r.length = 4) (hn : rq.length = n)
    (hown : w'.ownsRow 0 104 4 (.slice a (n + 1) c) (n + 1) (rq.flatten ++ r)) (hg : wA.grownBy w' qv.ownBlock) (hb : (Value.slice a (n + 1) c).ownBlock = qv.ownBlock ∨ (Value.slice a (n + 1) c).ownBlock = some wA.heap.size) :
    (∀ u, NB2Rel W p t bv sv (n + 1) rb (rq ++ [r]) rs u (w'.setCell ⟨p, 2, none⟩ (.slice a (n + 1) c))) ∧ w'.heap[p]? = some (.cells #[.int .u64 t, bv, qv, sv] 101 (0, 0)) := by
  subst hn
  have hs := hB.size
  have hsA := hA.size
  have hPA := h.below hA
  obtain ⟨h1, h2⟩ := hPA.growQ hr (by omega) hown hg hb
  have hbp : ∀ k, qv.ownBlock = some k ∨ k = p → W.heap.size ≤ k := fun k hk => by
    rcases hk with e | e
    · exact (h.q.lt e).1
    · subst e; exact h.pb
  exact ⟨fun u => ⟨a, c, h1, (hB.trans (hA.mono hs)).trans (h2.below (by omega) (fun k hk e => by have := hbp k e; omega))⟩, grown_keep hg hPA.blk (fun e => (hPA.ne.2.1 p e).1 rfl)⟩
theorem nb3 {W wc wA w' : World} {p t n : Nat} {bv qv sv : Value} {rb rq rs : List (List Value)} {r : List Value} {a : Option Addr} {c : Nat} (h : RP wc W.heap.size p t bv qv sv rb rq rs) (hB : Below W.heap.size W wc) (hA : Below wc.heap.size wc wA) (hr : r.length = 4) (hn : rs.length = n)
    (hown : w'.ownsRow 0 111 4 (.slice a (n + 1) c) (n + 1) (rs.flatten ++ r)) (hg : wA.grownBy w' sv.ownBlock) (hb : (Value.slice a (n + 1) c).ownBlock = sv.ownBlock ∨ (Value.slice a (n + 1) c).ownBlock = some wA.heap.size) :
    (RP (w'.setCell ⟨p, 3, none⟩ (.slice a (n + 1) c)) W.heap.size p t bv qv (.slice a (n + 1) c) rb rq (rs ++ [r]) ∧ Below W.heap.size W (w'.setCell ⟨p, 3, none⟩ (.slice a (n + 1) c))) ∧ w'.heap[p]? = some (.cells #[.int .u64 t, bv, qv, sv] 101 (0, 0)) := by
  subst hn
  have hs := hB.size
  have hsA := hA.size
  have hPA := h.below hA
  obtain ⟨h1, h2⟩ := hPA.growS hr (by omega) hown hg hb
  have hbp : ∀ k, sv.ownBlock = some k ∨ k = p → W.heap.size ≤ k := fun k hk => by
    rcases hk with e | e
    · exact (h.s.lt e).1
    · subst e; exact h.pb
  exact ⟨⟨h1, (hB.trans (hA.mono hs)).trans (h2.below (by omega) (fun k hk e => by have := hbp k e; omega))⟩, grown_keep hg hPA.blk (fun e => hPA.ne.2.2 p e rfl)⟩
theorem rnw_next {w w' : World} {t p k : Nat} {l : List Cl} {x : Cl} {bv qv sv : Value} (hmay : ∀ j x, j < k → l[j]? = some x → x.may = true) (hx : l[k]? = some x) (hxm : x.may = true)
    (hP : RP w' w.heap.size p t bv qv sv (((l.take k).map (newLn · t)).map bRow ++ [bRow (newLn x t)]) (List.zipWith qRow (List.replicate k (.slice none 0 0)) ((l.take k).map (newLn · t)) ++ [qRow (.slice none 0 0) (newLn x t)]) (((l.take k).map (newLn · t)).map sRow ++ [sRow (newLn x t)])) (hB : Below w.heap.size w w') :
    RnwRel w t p l (.int .i64 (k + 1 : Nat)) w' := by
  have hlt := (List.getElem?_eq_some_iff.1 hx).1
  have e1 : (l.take (k + 1)).map (newLn · t) = (l.take k).map (newLn · t) ++ [newLn x t] := by rw [List.take_add_one, hx]; simp
  have e2 : List.replicate (k + 1) (Value.slice none 0 0) = List.replicate k (Value.slice none 0 0) ++ [.slice none 0 0] := List.replicate_succ'
  have hlen : ((l.take k).map (newLn · t)).length = k := by rw [List.length_map, List.length_take]; omega
  refine ⟨k + 1, bv, qv, sv, rfl, hlt, ⟨?_, by rw [List.length_replicate]; show _ = ((l.take (k + 1)).map (newLn · t)).length; rw [e1, List.length_append, hlen]; rfl, fun c L y hL hy => ?_⟩, hB, fun j y hj hy => ?_⟩
  · show RP w' w.heap.size p t bv qv sv (((l.take (k + 1)).map (newLn · t)).map bRow) (List.zipWith qRow (List.replicate (k + 1) (.slice none 0 0)) ((l.take (k + 1)).map (newLn · t))) (((l.take (k + 1)).map (newLn · t)).map sRow)
    rw [e1, e2, List.map_append, List.map_append, List.zipWith_append (by rw [List.length_replicate, hlen])]
    exact hP
  · have hL : ((l.take (k + 1)).map (newLn · t))[c]? = some L := hL
    rw [List.getElem?_map] at hL
    obtain ⟨z, -, rfl⟩ := Option.map_eq_some_iff.1 hL
    rw [List.getElem?_replicate] at hy
    split at hy
    · injection hy with hy
      subst hy
      exact .inl ⟨rfl, rfl⟩
    · cases hy
  · by_cases hjk : j < k
    · exact hmay j y hjk hy
    · obtain rfl : j = k := by omega
      rw [hx] at hy
      injection hy with hy
      subst hy
      exact hxm

set_option maxRecDepth 100000 in
set_option maxHeartbeats 2000000 in
theorem rnew_any12 {t : Nat} {w : World} {v : Value} {l : List Cl} (hl : R4 w 0 107 v (l.map cRow)) (hlo : ∀ x ∈ l, x.Ok) (ht : t < 18446744073709551616) :
    Calls Try.prog 20 #[.int .u64 t, v] w (RnwOk w t l) := by
  obtain ⟨a, c, ev⟩ := hl.shape
  rw [List.length_map] at ev
  subst ev
  by_cases h : 0 < l.length ∧ l.length ≤ 8
  · obtain ⟨h0, h8⟩ := h
    have hnb : newB l = l.all Cl.may := by
      unfold newB
      rw [decide_eq_true h0, decide_eq_true h8]
      rfl
    have h1i : ¬ (l.length : Int) < 1 := by omega
    have h8i : ¬ (8 : Int) < (l.length : Int) := by omega
    have HL := Lib.hid (And.intro hl (And.intro hlo hnb))
    clear hl hlo hnb
    go_enter Try.func20, Try.ntmps20
    go_wp2_with fail
    have hA : Below w.heap.size w (w.alloc (.cells #[.int .u64 t, .slice none 0 0, .slice none 0 0, .slice none 0 0] 101)) := (Below.refl _ _).alloc (Nat.le_refl _) _
    have gp := alloc_block_new w (.cells #[.int .u64 t, .slice none 0 0, .slice none 0 0, .slice none 0 0] 101)
    have HS0 : Hid (RnwRel w t w.heap.size l (.int .i64 (0 : Nat)) (w.alloc (.cells #[.int .u64 t, .slice none 0 0, .slice none 0 0, .slice none 0 0] 101))) := Lib.hid
      ⟨0, _, _, _, rfl, Nat.zero_le _, ⟨⟨gp, Nat.le_refl _, r4_nil _ _ _, r4_nil _ _ _, r4_nil _ _ _⟩, rfl, fun c L y hL => by simp at hL⟩, hA, fun j x hj => by omega⟩
    clear hA gp
    obtain ⟨p, hp⟩ : ∃ p, w.heap.size = p := ⟨_, rfl⟩
    rw [hp] at HS0 ⊢
    have HP : Hid (w.heap.size = p) := Lib.hid hp
    clear hp
    go_loopw [7] (RnwRel w t p l) (fun i _ => l.length - (intOf i).toNat)
    case atStart => exact HS0.out
    case round =>
      clear HS0
      obtain ⟨k, bv, qv, sv, rfl, hk, hI, hB, hmay⟩ := hrel
      by_cases hlt : k < l.length
      · obtain ⟨x, hx⟩ : ∃ x, l[k]? = some x := ⟨_, List.getElem?_eq_getElem hlt⟩
        obtain ⟨gc, cc, ucl, ecl, -, hgc, -, -, -, -, hcell⟩ := HL.out.1.at (r := cRow x) (c := k) (by rw [List.getElem?_map, hx]; rfl)
        rw [List.length_map] at ecl
        injection ecl with e1 e2 e3
        subst e1 e3
        clear e2
        have hgl := lt_of_obj hgc
        have d0 := (hB.cell (p := ⟨gc, _, none⟩) hgl).trans (hcell 0 (by decide))
        have d1 := (hB.cell (p := ⟨gc, _, none⟩) hgl).trans (hcell 1 (by decide))
        have d2 := (hB.cell (p := ⟨gc, _, none⟩) hgl).trans (hcell 2 (by decide))
        have d3 := (hB.cell (p := ⟨gc, _, none⟩) hgl).trans (hcell 3 (by decide))
        simp only [Nat.add_zero] at d0
        replace d0 : wr.cell? ⟨gc, k * 4, none⟩ = some (.int .u64 x.rate) := d0
        replace d1 : wr.cell? ⟨gc, k * 4 + 1, none⟩ = some (.int .u64 x.burst) := d1
        replace d2 : wr.cell? ⟨gc, k * 4 + 2, none⟩ = some (.int .i64 x.items) := d2
        replace d3 : wr.cell? ⟨gc, k * 4 + 3, none⟩ = some (.int .i64 x.size) := d3
        have hki : (k : Int) < (l.length : Int) := by omega
        have hglr := Nat.lt_of_lt_of_le hgl hB.size
        have hno : x.may = false → l.all Cl.may = false := fun h => by
          refine List.all_eq_false.2 ⟨x, List.mem_of_getElem? hx, ?_⟩
          rw [h]
          decide
        have HX := Lib.hid (And.intro hI (And.intro hB (And.intro hmay hx)))
        clear hI hB hmay hgc hcell
        have hxo := HL.out.2.1 x (List.mem_of_getElem? HX.out.2.2.2)
        by_cases hbad : x.items < 0 ∨ x.size < 0 ∨ 65536 < x.items
        · have hall := hno (by
            unfold Cl.may
            rcases hbad with h | h | h
            · rw [show decide (0 ≤ x.items) = false from decide_eq_false (by omega)]; rfl
            · rw [show decide (0 ≤ x.size) = false from decide_eq_false (by omega)]; simp
            · rw [show decide (x.items ≤ 65536) = false from decide_eq_false (by omega)]; simp)
          have HN : Hid (∀ w', Calls Try.prog 34 #[.int .i64 x.items, .int .i64 x.size] w' fun e w'' => e = .returned (.tuple #[.agg #[.slice none 0 0, .int .i64 0, .int .i64 0, .int .u64 0], .int .i64 2]) ∧ Below w'.heap.size w' w'') := Lib.hid fun w' => rnew_bad x.items x.size (by omega) w'
          have HALL := Lib.hid hall
          clear hall hno
          go_upto_region 7 with (fail)
          go_cut [9] (NBRel wr)
          case first =>
            have no1 : ¬ gc = wr.heap.size := by omega
            have no2 : ¬ wr.heap.size = gc := by omega
            go_region_held3 (fun w' => w'.cell? ⟨gc, k * 4 + 2, none⟩ = some (.int .i64 x.items) ∧ w'.cell? ⟨gc, k * 4 + 3, none⟩ = some (.int .i64 x.size)) (go_keep)
              (first
                | (go_at_call 34; refine Calls.mono (HN.out _) ?_
                   rintro e w3 ⟨rfl, hB3⟩
                   have hB : Below wr.heap.size wr w3 := by
                     first
                       | exact (Below.refl wr.heap.size wr).drew.trans hB3
                       | exact (((Below.refl wr.heap.size wr).drew).alloc (Nat.le_refl _) _).trans (hB3.mono (by simp))
                       | exact (((Below.refl wr.heap.size wr).alloc (Nat.le_refl _) _).drew).trans (hB3.mono (by simp))
                   have i0 := (hB.cell (p := ⟨gc, k * 4 + 2, none⟩) hglr).trans d2
                   have i1 := (hB.cell (p := ⟨gc, k * 4 + 3, none⟩) hglr).trans d3
                   first
                     | (have HNn := Lib.hid (new_in hB3)
                        have t0 := cell_of_block HNn.out 0; have t1 := cell_of_block HNn.out 1; have t2 := cell_of_block HNn.out 2; have t3 := cell_of_block HNn.out 3
                        have f0 := free_of_block HNn.out 0; have f1 := free_of_block HNn.out 1; have f2 := free_of_block HNn.out 2; have f3 := free_of_block HNn.out 3
                        dsimp at t0 t1 t2 t3)
                     | (have HNn := Lib.hid (new_in' hB3)
                        have t0 := cell_of_block HNn.out 0; have t1 := cell_of_block HNn.out 1; have t2 := cell_of_block HNn.out 2; have t3 := cell_of_block HNn.out 3
                        have f0 := free_of_block HNn.out 0; have f1 := free_of_block HNn.out 1; have f2 := free_of_block HNn.out 2; have f3 := free_of_block HNn.out 3
                        dsimp at t0 t1 t2 t3)
                     | skip
                   have hs3 := hB.size
                   have ne1 : ¬ gc = w3.heap.size := by omega
                   have ne2 : ¬ w3.heap.size = gc := by omega
                   have H3 := Lib.hid hB; clear hB3 hB))
            all_goals
              clear i0 i1 ne1 ne2 no1 no2
              have hB := H3.out
              go_wp2_with fail
              go_meet
              case rel =>
                first
                  | exact ⟨rfl, hB.alloc hB.size _⟩
                  | (obtain ⟨hbn, hbO⟩ := set4_blk HNn.out (.slice none 0 0) (.int .i64 0) (.int .i64 0) (.int .u64 0)
                     exact ⟨rfl, hB.trans (hbO.below hB.size (fun j hj e => by omega))⟩)
                  | exact ⟨rfl, hB⟩
          case rest =>
            obtain ⟨rfl, hB2⟩ := hcut
            have e1 := (hB2.cell (p := ⟨gc, k * 4 + 1, none⟩) hglr).trans d1
            have HB := Lib.hid (And.intro HALL.out (HX.out.2.1.trans (hB2.mono HX.out.2.1.size)))
            clear hB2 d0 d1 d2 d3 HN HALL HX
            by_cases hbu : x.burst < 2048
            · have hbi : (x.burst : Int) < 2048 := by omega
              go_wp2_with fail
              go_ret2
              exact .inl ⟨HL.out.2.2.trans HB.out.1, rfl, HB.out.2⟩
            · have hbi : ¬ (x.burst : Int) < 2048 := by omega
              go_wp2_with fail
              go_ret2
              exact .inl ⟨HL.out.2.2.trans HB.out.1, rfl, HB.out.2⟩
        · obtain ⟨it, hit⟩ := Int.eq_ofNat_of_zero_le (show 0 ≤ x.items by omega)
          obtain ⟨zz, hzz⟩ := Int.eq_ofNat_of_zero_le (show 0 ≤ x.size by omega)
          have hit6 : it ≤ 65536 := by omega
          have hzz6 : zz ≤ 9223372036854775807 := by have := hxo.size; omega
          have HN : Hid (∀ w', Calls Try.prog 34 #[.int .i64 it, .int .i64 zz] w' fun e w'' => e = .returned (.tuple #[.agg #[.slice none 0 0, .int .i64 it, .int .i64 zz, .int .u64 0], .int .i64 0]) ∧ Below w'.heap.size w' w'') := Lib.hid fun w' => rnew_ok it zz hit6 hzz6 w'
          have hmf : x.burst < 2048 → l.all Cl.may = false := fun h => hno (by unfold Cl.may; rw [show decide (2048 ≤ x.burst) = false from decide_eq_false (by omega)]; simp)
          have hmt : ¬ x.burst < 2048 → x.may = true := fun h => by
            unfold Cl.may
            rw [decide_eq_true (show 0 ≤ x.items by omega), decide_eq_true (show x.items ≤ 65536 by omega), decide_eq_true (show 0 ≤ x.size by omega), decide_eq_true (show 2048 ≤ x.burst by omega)]
            rfl
          have HMAY := Lib.hid (And.intro hmf (And.intro hmt (And.intro hit hzz)))
          rw [hit] at d2
          rw [hzz] at d3
          clear hmf hmt hit hzz hno hbad hxo
          go_upto_region 7 with (fail)
          go_cut [8, 9] (NDRel wr it zz)
          case first =>
            have no1 : ¬ gc = wr.heap.size := by omega
            have no2 : ¬ wr.heap.size = gc := by omega
            go_region_held3 (fun w' => w'.cell? ⟨gc, k * 4 + 2, none⟩ = some (.int .i64 it) ∧ w'.cell? ⟨gc, k * 4 + 3, none⟩ = some (.int .i64 zz)) (go_keep)
              (first
                | (go_at_call 34; refine Calls.mono (HN.out _) ?_
                   rintro e w3 ⟨rfl, hB3⟩
                   have hB : Below wr.heap.size wr w3 := by
                     first
                       | exact (Below.refl wr.heap.size wr).drew.trans hB3
                       | exact (((Below.refl wr.heap.size wr).drew).alloc (Nat.le_refl _) _).trans (hB3.mono (by simp))
                       | exact (((Below.refl wr.heap.size wr).alloc (Nat.le_refl _) _).drew).trans (hB3.mono (by simp))
                   have i0 := (hB.cell (p := ⟨gc, k * 4 + 2, none⟩) hglr).trans d2
                   have i1 := (hB.cell (p := ⟨gc, k * 4 + 3, none⟩) hglr).trans d3
                   first
                     | (have HNn := Lib.hid (new_in hB3)
                        have t0 := cell_of_block HNn.out 0; have t1 := cell_of_block HNn.out 1; have t2 := cell_of_block HNn.out 2; have t3 := cell_of_block HNn.out 3
                        have f0 := free_of_block HNn.out 0; have f1 := free_of_block HNn.out 1; have f2 := free_of_block HNn.out 2; have f3 := free_of_block HNn.out 3
                        dsimp at t0 t1 t2 t3)
                     | (have HNn := Lib.hid (new_in' hB3)
                        have t0 := cell_of_block HNn.out 0; have t1 := cell_of_block HNn.out 1; have t2 := cell_of_block HNn.out 2; have t3 := cell_of_block HNn.out 3
                        have f0 := free_of_block HNn.out 0; have f1 := free_of_block HNn.out 1; have f2 := free_of_block HNn.out 2; have f3 := free_of_block HNn.out 3
                        dsimp at t0 t1 t2 t3)
                     | skip
                   have hs3 := hB.size
                   have ne1 : ¬ gc = w3.heap.size := by omega
                   have ne2 : ¬ w3.heap.size = gc := by omega
                   have H3 := Lib.hid hB; clear hB3 hB))
            all_goals
              clear i0 i1 ne1 ne2 no1 no2
              have hB := H3.out
              go_wp2_with fail
              go_meet
              case rel =>
                first
                  | exact ⟨_, rfl, rfl, alloc_block_new w3 _, hB.alloc hB.size _, hB.size⟩
                  | (obtain ⟨hbn, hbO⟩ := set4_blk HNn.out (.slice none 0 0) (.int .i64 it) (.int .i64 zz) (.int .u64 0)
                     exact ⟨_, rfl, rfl, hbn, hB.trans (hbO.below hB.size (fun j hj e => by omega)), Nat.le_refl _⟩)
          case rest =>
            obtain ⟨g8, rfl, rfl, hz8, hB2, hg8⟩ := hcut
            have e0 := (hB2.cell (p := ⟨gc, k * 4, none⟩) hglr).trans d0
            have e1 := (hB2.cell (p := ⟨gc, k * 4 + 1, none⟩) hglr).trans d1
            have hI2 := HX.out.1.below hB2
            have hBw := HX.out.2.1.trans (hB2.mono HX.out.2.1.size)
            have HB2 := Lib.hid (And.intro hI2 (And.intro hBw hz8))
            have hglc := Nat.lt_of_lt_of_le hglr hB2.size
            have hlen : ((l.take k).map (newLn · t)).length = k := by rw [List.length_map, List.length_take]; omega
            have HXX := Lib.hid (And.intro HX.out.2.2.1 HX.out.2.2.2)
            clear hB2 d0 d1 d2 d3 HN hI2 hBw hz8 hg8
            by_cases hbu : x.burst < 2048
            · have hbi : (x.burst : Int) < 2048 := by omega
              have HALL := Lib.hid (HMAY.out.1 hbu)
              go_wp2_with fail
              go_ret2
              exact .inl ⟨HL.out.2.2.trans HALL.out, rfl, HB2.out.2.1⟩
            · have hbi : ¬ (x.burst : Int) < 2048 := by omega
              have hxm := HMAY.out.2.1 hbu
              have hit := HMAY.out.2.2.1
              have hzz := HMAY.out.2.2.2
              have hqe : qRow (.slice none 0 0) (newLn x t) = [.slice none 0 0, .int .i64 it, .int .i64 zz, .int .u64 0] := by
                unfold qRow newLn empty
                rw [hit, hzz]
                rfl
              have HQE := Lib.hid (And.intro hqe hxm)
              clear hqe hxm hit hzz HMAY
              have hP := HB2.out.1.rp
              obtain ⟨ba, bc, rfl⟩ : ∃ a c, bv = .slice a k c := by
                obtain ⟨a, c, e⟩ := hP.b.shape
                rw [List.length_map, hlen] at e
                exact ⟨a, c, e⟩
              obtain ⟨qa, qc, rfl⟩ : ∃ a c, qv = .slice a k c := by
                obtain ⟨a, c, e⟩ := hP.q.shape
                rw [List.length_zipWith, List.length_replicate, hlen, Nat.min_self] at e
                exact ⟨a, c, e⟩
              obtain ⟨sa, sc, rfl⟩ : ∃ a c, sv = .slice a k c := by
                obtain ⟨a, c, e⟩ := hP.s.shape
                rw [List.length_map, hlen] at e
                exact ⟨a, c, e⟩
              have hlb : (((l.take k).map (newLn · t)).map bRow).length = k := by rw [List.length_map, hlen]
              have hlq : (List.zipWith qRow (List.replicate k (.slice none 0 0)) ((l.take k).map (newLn · t))).length = k := by rw [List.length_zipWith, List.length_replicate, hlen, Nat.min_self]
              have hls : (((l.take k).map (newLn · t)).map sRow).length = k := by rw [List.length_map, hlen]
              have HLN := Lib.hid (And.intro hlb (And.intro hlq hls))
              have HNX : Hid (∀ bv2 qv2 sv2 w', RP w' w.heap.size p t bv2 qv2 sv2 (((l.take k).map (newLn · t)).map bRow ++ [bRow (newLn x t)]) (List.zipWith qRow (List.replicate k (.slice none 0 0)) ((l.take k).map (newLn · t)) ++ [[.slice none 0 0, .int .i64 it, .int .i64 zz, .int .u64 0]]) (((l.take k).map (newLn · t)).map sRow ++ [[.int .u64 0, .int .u64 0, .int .u64 0, .int .u64 0]]) → Below w.heap.size w w' → RnwRel w t p l (.int .i64 (k + 1 : Nat)) w') := Lib.hid fun bv2 qv2 sv2 w' h1 h2 => rnw_next HXX.out.1 HXX.out.2 HQE.out.2 (by rw [HQE.out.1]; exact h1) h2
              have HPX := Lib.hid (And.intro hP (And.intro HB2.out.2.1 HB2.out.2.2))
              generalize ((l.take k).map (newLn · t)).map bRow = rb at *
              generalize List.zipWith qRow (List.replicate k (.slice none 0 0)) ((l.take k).map (newLn · t)) = rq at *
              generalize ((l.take k).map (newLn · t)).map sRow = rs at *
              have p1 := hP.c1
              have hpl := lt_of_obj hP.blk
              have HRb : Hid (∀ z, Below wc.heap.size wc z → z.ownsRow 0 109 4 (.slice ba k bc) k rb.flatten) := Lib.hid fun z hz => by
                have h := own_lower (hP.b.below hz).row (Nat.zero_le _)
                rwa [hlb] at h
              obtain ⟨i0, hi0, hz0, hz1, hz2⟩ := info_parts info_rb
              clear hP hlb hlq hls hlen
              go_upto_region 10 with (fail)
              go_cut [67] (NB1Rel w p t g8 #[.slice none 0 0, .int .i64 it, .int .i64 zz, .int .u64 0] (.slice qa k qc) (.slice sa k sc) (k + 1) (rb ++ [bRow (newLn x t)]) rq rs)
              case first =>
                go_region_law (first
                  | (refine step_append_row rfl (.tmp 55) (.tmp 68) 97 rfl 109 i0 _ 4 32 Try.underlying97 hi0 hz0 hz1 hz2 rfl (by decide) (.slice ba k bc) k rb.flatten (by simp [go_sem]) (HRb.out _ (HBL.out _)) ⟨w3.heap.size, 0, none⟩ 1 1 (bRow (newLn x t)) (by simp [go_sem]) rfl (four_new _ _ rfl _ _ _ _ _) (by intro u hu; simp [bRow] at hu; rcases hu with rfl | rfl | rfl | rfl <;> rfl) (by unfold maxLen; omega) (by omega) ?_
                     intro v' w' hown hg hb
                     obtain ⟨va, vc, ev⟩ := own_shape hown
                     subst ev
                     obtain ⟨hr1, hr2⟩ := nb1 HPX.out.1 HPX.out.2.1 HPX.out.2.2 (HBL.out _) rfl HLN.out.1 hown hg hb
                     have p6 : w'.cell? ⟨p, 1, none⟩ = some (.slice ba k bc) := cell_of_block hr2 1
                     have f6 : w'.frozen? ⟨p, 1, none⟩ = false := free_of_block hr2 1
                     have HR := Lib.hid hr1
                     clear hown hg hb hr1 hr2)
                  | (go_simp; go_at_call 35; with_reducible refine Calls.mono (rnew_any x.rate x.burst t _) ?_; rintro e w3 ⟨rfl, hO3⟩; dsimp only
                     have HB3 : Hid (Below wc.heap.size wc w3) := Lib.hid ((Below.refl wc.heap.size wc).drew.trans (hO3.below (Nat.le_refl _) (fun _ _ h => h)))
                     have HBL : Hid (∀ o1, Below wc.heap.size wc (w3.alloc o1)) := Lib.hid fun o1 => HB3.out.alloc HB3.out.size o1
                     have z0 := (HB3.out.cell (p := ⟨gc, k * 4, none⟩) hglc).trans e0
                     have z1 := (HB3.out.cell (p := ⟨gc, k * 4 + 1, none⟩) hglc).trans e1
                     have p3 := (HB3.out.cell (p := ⟨p, 1, none⟩) hpl).trans p1
                     have pa1 : ∀ o1, (w3.alloc o1).cell? ⟨p, 1, none⟩ = some (.slice ba k bc) := fun o1 => ((HBL.out o1).cell (p := ⟨p, 1, none⟩) hpl).trans p1
                     clear hO3))
                all_goals
                  clear HBL HRb HB3
                  go_wp2_with fail
                  go_meet
                  case rel => exact HR.out _
              case rest =>
                obtain ⟨ba2, bc2, hP2, hB3, h8⟩ := hcut
                obtain ⟨wd, rfl⟩ : ∃ wo : World, wo = wc := ⟨_, rfl⟩
                have p2 := hP2.c2
                have hpl2 := lt_of_obj hP2.blk
                have hg8l := lt_of_obj h8
                have y0 : wd.cell? ⟨g8, 0, none⟩ = some (.slice none 0 0) := cell_of_block h8 0
                have y1 : wd.cell? ⟨g8, 1, none⟩ = some (.int .i64 it) := cell_of_block h8 1
                have y2 : wd.cell? ⟨g8, 2, none⟩ = some (.int .i64 zz) := cell_of_block h8 2
                have y3 : wd.cell? ⟨g8, 3, none⟩ = some (.int .u64 0) := cell_of_block h8 3
                have HRq : Hid (∀ z, Below wd.heap.size wd z → z.ownsRow 0 104 4 (.slice qa k qc) k rq.flatten) := Lib.hid fun z hz => by
                  have h := own_lower (hP2.q.below hz).row (Nat.zero_le _)
                  rwa [HLN.out.2.1] at h
                have HBA : Hid (∀ o, Below wd.heap.size wd ((wd.alloc o).drew)) := Lib.hid fun o => ((Below.refl _ _).alloc (Nat.le_refl _) o).drew
                have HBD : Hid (∀ o, Below wd.heap.size wd ((wd.drew).alloc o)) := Lib.hid fun o => ((Below.refl _ _).drew).alloc (Nat.le_refl _) o
                have pa2 : ∀ o, ((wd.alloc o).drew).cell? ⟨p, 2, none⟩ = some (.slice qa k qc) := fun o => ((HBA.out o).cell (p := ⟨p, 2, none⟩) hpl2).trans p2
                have pd2 : ∀ o, ((wd.drew).alloc o).cell? ⟨p, 2, none⟩ = some (.slice qa k qc) := fun o => ((HBD.out o).cell (p := ⟨p, 2, none⟩) hpl2).trans p2
                have pb2 : ∀ o, (wd.alloc o).cell? ⟨p, 2, none⟩ = some (.slice qa k qc) := fun o => pa2 o
                have HP2 := Lib.hid (And.intro hP2 hB3)
                obtain ⟨i1, hi1, hy0, hy1, hy2⟩ := info_parts info_rqu
                clear hP2 hB3 h8 p1 e0 e1 HRb HPX HB2 HX
                go_upto_region 11 with (fail)
                go_cut [77] (NB2Rel w p t (.slice ba2 (k + 1) bc2) (.slice sa k sc) (k + 1) (rb ++ [bRow (newLn x t)]) (rq ++ [[.slice none 0 0, .int .i64 it, .int .i64 zz, .int .u64 0]]) rs)
                case first =>
                  go_region_law (first
                    | (refine step_append_row rfl (.tmp 76) (.tmp 78) 98 rfl 104 i1 _ 4 48 Try.underlying98 hi1 hy0 hy1 hy2 rfl (by decide) (.slice qa k qc) k rq.flatten (by simp [go_sem]) (by first | exact HRq.out _ (HBA.out _) | exact HRq.out _ (HBD.out _)) ⟨wd.heap.size, 0, none⟩ 1 1 [.slice none 0 0, .int .i64 it, .int .i64 zz, .int .u64 0] (by simp [go_sem]) rfl (four_new _ _ rfl _ _ _ _ _) (by intro u hu; simp at hu; rcases hu with rfl | rfl | rfl | rfl <;> rfl) (by unfold maxLen; omega) (by omega) ?_
                       intro v' w' hown hg hb
                       obtain ⟨va, vc, ev⟩ := own_shape hown
                       subst ev
                       obtain ⟨hr1, hr2⟩ := nb2 (r := [.slice none 0 0, .int .i64 it, .int .i64 zz, .int .u64 0]) HP2.out.1 HP2.out.2 (by first | exact HBA.out _ | exact HBD.out _) rfl HLN.out.2.1 hown hg hb
                       have p6 : w'.cell? ⟨p, 2, none⟩ = some (.slice qa k qc) := cell_of_block hr2 2
                       have f6 : w'.frozen? ⟨p, 2, none⟩ = false := free_of_block hr2 2
                       have HR := Lib.hid hr1
                       clear hown hg hb hr1 hr2))
                  all_goals
                    clear pa2 pd2 pb2 HBA HBD HRq
                    go_wp2_with fail
                    go_meet
                    case rel => exact HR.out _
                case rest =>
                  obtain ⟨qa2, qc2, hP3, hB4⟩ := hcut
                  obtain ⟨we, rfl⟩ : ∃ wo : World, wo = wc := ⟨_, rfl⟩
                  have p3 := hP3.c3
                  have hAe : Below we.heap.size we (we.alloc (.cells #[.int .u64 0, .int .u64 0, .int .u64 0, .int .u64 0] 111)) := (Below.refl _ _).alloc (Nat.le_refl _) _
                  have hrow := own_lower (hP3.s.below hAe).row (Nat.zero_le _)
                  rw [HLN.out.2.2] at hrow
                  have HP3 := Lib.hid (And.intro hP3 (And.intro hB4 (And.intro hAe hrow)))
                  obtain ⟨i2, hi2, hs0, hs1, hs2⟩ := info_parts info_rs
                  clear hP3 hB4 hAe hrow pa2 pd2 pb2 HBA HBD HRq p2 y0 y1 y2 y3 HP2
                  go_wp2_with (first | (at_builtin; refine wpList_append_row _ rfl (.tmp 86) (.tmp 88) 99 rfl 111 i2 _ 4 32 Try.underlying99 hi2 hs0 hs1 hs2 rfl (by decide) (.slice sa k sc) k rs.flatten rfl HP3.out.2.2.2 ⟨we.heap.size, 0, none⟩ 1 1 [.int .u64 0, .int .u64 0, .int .u64 0, .int .u64 0] rfl rfl (four_new _ _ rfl _ _ _ _ _) (by intro u hu; simp at hu; rcases hu with rfl | rfl | rfl | rfl <;> rfl) (by unfold maxLen; omega) (by omega) ?_))
                  intro v' w' hown hg hb
                  obtain ⟨va, vc, ev⟩ := own_shape hown
                  subst ev
                  obtain ⟨hr1, hr2⟩ := nb3 (r := [.int .u64 0, .int .u64 0, .int .u64 0, .int .u64 0]) HP3.out.1 HP3.out.2.1 HP3.out.2.2.1 rfl HLN.out.2.2 hown hg (by simpa using hb)
                  have p6 : w'.cell? ⟨p, 3, none⟩ = some (.slice sa k sc) := cell_of_block hr2 3
                  have f6 : w'.frozen? ⟨p, 3, none⟩ = false := free_of_block hr2 3
                  have HR : Hid (RnwRel w t p l (.int .i64 (k + 1 : Nat)) (w'.setCell ⟨p, 3, none⟩ (.slice va (k + 1) vc))) := Lib.hid (HNX.out _ _ _ _ hr1.1 hr1.2)
                  clear hown hg hb hr1 hr2 HP3
                  go_wp2_with fail
                  go_roundw
                  case rel => exact HR.out
                  case measure => simp [intOf]; omega
      · obtain rfl : k = l.length := by omega
        have hki : ¬ ((l.length : Nat) : Int) < (l.length : Int) := by omega
        have HX := Lib.hid (And.intro hI (And.intro hB hmay))
        clear hI hB hmay
        go_wp2_with fail
        go_ret2
        refine .inr ⟨?_, p, bv, qv, sv, List.replicate l.length (.slice none 0 0), rfl, ?_, HX.out.2.1⟩
        · rw [HL.out.2.2]
          exact List.all_eq_true.2 fun x hx => by
            obtain ⟨j, hj⟩ := List.mem_iff_getElem?.1 hx
            exact HX.out.2.2 j x (List.getElem?_eq_some_iff.1 hj).1 hj
        · have h := HX.out.1
          rw [List.take_length] at h
          exact h
  · refine (rnew_len (t := t) (a := a) (n := l.length) (c := c) (by omega)).mono fun e w' hn => .inl ⟨?_, hn⟩
    unfold newB
    rcases Nat.eq_zero_or_pos l.length with h1 | h1
    · rw [decide_eq_false (by omega)]; rfl
    · rw [decide_eq_false (show ¬ l.length ≤ 8 by omega)]; simp
end Go.Proofs.Ythipfcmjpgbemaa

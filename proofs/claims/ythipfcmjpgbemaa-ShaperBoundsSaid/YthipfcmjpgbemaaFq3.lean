/- All: a range over the queue's own iterator. -/
import Derived.Test.YthipfcmjpgbemaaFq2
import Derived.RangeFuncGives
import Derived.RangeFuncBox
import Derived.RangeFuncRecord
import Derived.RangeFuncLeaves
import Derived.TacticsIn
import Derived.BigFrameIn
import Derived.OwnWalkIn
import Derived.LoopIn
import Derived.Shelf.Abstract
namespace Go.Proofs.Ythipfcmjpgbemaa
open Go.RowKit

/-- Items in new memory. -/
structure NewI (base : Nat) (w : World) (F : Nat → Prop) (v : Value) (xs : List Value) (L : List It) : Prop where
  row : w.ownsRow base 34 3 v L.length xs
  cs : ∀ i x, L[i]? = some x → ∃ y, ItAt w F xs (i * 3) x y
  ge : ∀ k, F k → base ≤ k
  ft : ∀ k, F k → ∃ c, w.heap[k]? = some (.cells c 5 (0, 0))
  dj : ∀ i j yi yj, i < j → j < L.length → xs[i * 3 + 2]? = some yi → xs[j * 3 + 2]? = some yj → ∀ k, yi.ownBlock = some k → ¬ yj.ownBlock = some k

theorem row_type {w : World} {base : Nat} {e : TypeId} {size : Nat} {v : Value} {n : Nat} {xs : List Value} (h : w.ownsRow base e size v n xs) : ∀ k, v.ownBlock = some k → ∃ c, w.heap[k]? = some (.cells c e (0, 0)) := by
  intro k hk
  rcases h.2 with ⟨hv, _⟩ | ⟨g, cap, cur, hv, _, hh, _⟩
  · rw [hv] at hk; cases hk
  · rw [hv] at hk; injection hk with hk; subst hk; exact ⟨_, hh⟩

theorem NewI.keep {base : Nat} {w w' : World} {F S : Nat → Prop} {v : Value} {xs : List Value} {L : List It} (h : NewI base w F v xs L) (hO : Only S w w') (hF : ∀ k, F k → ¬ S k) (hv : ∀ k, v.ownBlock = some k → ¬ S k) : NewI base w' F v xs L :=
  ⟨own_only h.row hO hv, fun i x hx => let ⟨y, hy⟩ := h.cs i x hx; ⟨y, hy.keep hO hF⟩, h.ge, fun k hk => let ⟨c, hc⟩ := h.ft k hk; ⟨c, hO.keep hc (hF k hk)⟩, h.dj⟩
theorem NewI.below {base : Nat} {w w' : World} {F : Nat → Prop} {v : Value} {xs : List Value} {L : List It} (h : NewI base w F v xs L) (hB : Below w.heap.size w w') : NewI base w' F v xs L :=
  h.keep (Below.only hB (fun _ => False)) (fun _ _ h => h) (fun _ _ h => h)
/-- Behind a change of one block that holds something else. -/
theorem NewI.other {base : Nat} {w w' : World} {F : Nat → Prop} {v : Value} {xs : List Value} {L : List It} (h : NewI base w F v xs L) {b : Nat} {o : Obj} (ho : w.heap[b]? = some o) (h1 : ∀ c, o ≠ .cells c 5 (0, 0)) (h2 : ∀ c, o ≠ .cells c 34 (0, 0)) (hO : Only (· = b) w w') : NewI base w' F v xs L := by
  refine h.keep hO (fun k hk e => ?_) (fun k hk e => ?_)
  · obtain ⟨c, hc⟩ := h.ft k hk
    subst e
    rw [ho] at hc
    injection hc with hc
    exact h1 c hc
  · obtain ⟨c, hc⟩ := row_type h.row k hk
    subst e
    rw [ho] at hc
    injection hc with hc
    exact h2 c hc
theorem NewI.ne_row {base : Nat} {w : World} {F : Nat → Prop} {v : Value} {xs : List Value} {L : List It} (h : NewI base w F v xs L) {b : Nat} {o : Obj} (ho : w.heap[b]? = some o) (h2 : ∀ c, o ≠ .cells c 34 (0, 0)) : ¬ v.ownBlock = some b := fun e => by
  obtain ⟨c, hc⟩ := row_type h.row b e
  rw [ho] at hc
  injection hc with hc
  exact h2 c hc
/-- Of bytes likewise. -/
theorem own8_other {w w' : World} {base : Nat} {v : Value} {zs : List Nat} (h : Own8 w base v zs) {b : Nat} {o : Obj} (ho : w.heap[b]? = some o) (h1 : ∀ c, o ≠ .cells c 5 (0, 0)) (hO : Only (· = b) w w') : Own8 w' base v zs := by
  refine own_only h hO (fun k hk e => ?_)
  obtain ⟨c, hc⟩ := row_type h k hk
  subst e
  rw [ho] at hc
  injection hc with hc
  exact h1 c hc

/-- One more. -/
theorem NewI.snoc {base : Nat} {w w5 : World} {F : Nat → Prop} {v v2 y : Value} {xs : List Value} {L : List It} (h : NewI base w F v xs L) (x : It) (hy : Own8 w base y x.data) (hyF : ∀ k, y.ownBlock = some k → ¬ F k)
    (hOW : w5.ownsRow base 34 3 v2 (L.length + 1) (xs ++ [.int .u64 x.no, .int .i64 x.size, y])) (hG : w.grownBy w5 v.ownBlock) : NewI base w5 (fun k => F k ∨ y.ownBlock = some k) v2 (xs ++ [.int .u64 x.no, .int .i64 x.size, y]) (L ++ [x]) := by
  have hO : Only (fun k => v.ownBlock = some k) w w5 := (Only.refl _ _).grown hG (fun k hk _ => hk)
  have hd : ∀ k c, w.heap[k]? = some (.cells c 5 (0, 0)) → ¬ v.ownBlock = some k := fun k c hc hk => by
    obtain ⟨c', hc'⟩ := row_type h.row k hk
    rw [hc] at hc'
    injection hc' with hc'
    injection hc' with _ e _
    exact absurd e (by decide)
  have hF : ∀ k, F k → ¬ v.ownBlock = some k := fun k hk => let ⟨c, hc⟩ := h.ft k hk; hd k c hc
  have hY : ∀ k, y.ownBlock = some k → ¬ v.ownBlock = some k := fun k hk => let ⟨c, hc⟩ := row_type hy k hk; hd k c hc
  have hxl : xs.length = L.length * 3 := h.row.1
  refine ⟨by simpa using hOW, fun i z hz => ?_, ?_, ?_, ?_⟩
  · by_cases hi : i < L.length
    · rw [List.getElem?_append_left hi] at hz
      obtain ⟨u, hu⟩ := h.cs i z hz
      have hu' := hu.keep hO hF
      exact ⟨u, by rw [List.getElem?_append_left (by omega)]; exact hu'.c0, by rw [List.getElem?_append_left (by omega)]; exact hu'.c1, by rw [List.getElem?_append_left (by omega)]; exact hu'.c2, hu'.d, fun k hk => .inl (hu'.f k hk)⟩
    · have hin : i = L.length := by
        have := (List.getElem?_eq_some_iff.1 hz).1
        simp at this
        omega
      subst hin
      rw [List.getElem?_append_right (by omega), Nat.sub_self] at hz
      simp at hz
      subst hz
      refine ⟨y, ?_, ?_, ?_, own_lower (own_only hy hO hY) (Nat.zero_le _), fun k hk => .inr hk⟩
      · rw [List.getElem?_append_right (by omega), hxl, Nat.sub_self]; rfl
      · rw [List.getElem?_append_right (by omega), hxl, show L.length * 3 + 1 - L.length * 3 = 1 by omega]; rfl
      · rw [List.getElem?_append_right (by omega), hxl, show L.length * 3 + 2 - L.length * 3 = 2 by omega]; rfl
  · rintro k (hk | hk)
    · exact h.ge k hk
    · exact own_ge hy k hk
  · rintro k (hk | hk)
    · obtain ⟨c, hc⟩ := h.ft k hk
      exact ⟨c, hO.keep hc (hF k hk)⟩
    · obtain ⟨c, hc⟩ := row_type hy k hk
      exact ⟨c, hO.keep hc (hY k hk)⟩
  · intro i j yi yj hij hj hi hjj k hk
    simp only [List.length_append, List.length_cons, List.length_nil] at hj
    rw [List.getElem?_append_left (by omega)] at hi
    by_cases hjl : j < L.length
    · rw [List.getElem?_append_left (by omega)] at hjj
      exact h.dj i j yi yj hij hjl hi hjj k hk
    · obtain rfl : j = L.length := by omega
      rw [List.getElem?_append_right (by omega), hxl, show L.length * 3 + 2 - L.length * 3 = 2 by omega] at hjj
      simp at hjj
      subst hjj
      obtain ⟨u, hu⟩ := h.cs i L[i] (List.getElem?_eq_getElem hij)
      have e := hu.c2
      rw [hi] at e
      injection e with e
      subst e
      exact fun e => hyF k e (hu.f k hk)

/-- A code's first range over a function: what is assigned, and the body. -/
def rangeOf : Code → Option (Code × Code)
  | .seq a b => (rangeOf a).or (rangeOf b)
  | .cond _ a b => (rangeOf a).or (rangeOf b)
  | .block _ a => rangeOf a
  | .loop a => rangeOf a
  | .scope a => rangeOf a
  | .rangeFunc _ _ a b => some (a, b)
  | _ => none
noncomputable def allAssign : Code := ((Try.f33.body.bind rangeOf).map (·.1)).getD .skip
noncomputable def allBody : Code := ((Try.f33.body.bind rangeOf).map (·.2)).getD .skip

/-- The loop's record: All's temporaries as they stood at the entering. -/
noncomputable def allRec (fn : FuncId) (p Bs Bq D : Nat) (st : LoopState) (pend : Option Code) : Loop :=
  { state := st, pending := pend, fn, tmps := #[.pointer (some ⟨p, 0, none⟩), undef, .slice none 0 0, .pointer (some ⟨Bs, 0, none⟩), undef, .pointer (some ⟨p, 0, none⟩), .bool false, .pointer (some ⟨p, 0, none⟩), .func (.func 67) #[] #[.pointer (some ⟨Bq, 0, none⟩)], undef, undef, undef, undef, undef, undef],
    params := #[9], assign := allAssign, body := allBody, defers := D }

/-- Between two rounds: the box holds a slice that owns what has come so far; nothing that lay before the call has turned. -/
structure AAt (w0 : World) (fn : FuncId) (p Bs Bq l D : Nat) (L : List It) (m : Nat) (W : World) : Prop where
  box : ∃ v xs F, W.heap[Bs]? = some (.cells #[v] 49 (0, 0)) ∧ NewI w0.heap.size W F v xs L ∧ ∀ k, F k → k < m
  L : W.heap[l]? = some (.loop (allRec fn p Bs Bq D .ready none))
  K : W.heap[D]? = some (.deferred (some []))
  below : Below w0.heap.size w0 W
  q : W.heap[Bq]? = some (.cells #[.pointer (some ⟨p, 0, none⟩)] 74 (0, 0))

theorem AAt.later {w0 : World} {fn : FuncId} {p Bs Bq l D : Nat} {L : List It} {m : Nat} {W W' : World} (h : AAt w0 fn p Bs Bq l D L m W) (hB : Below W.heap.size W W') : AAt w0 fn p Bs Bq l D L m W' := by
  obtain ⟨v, xs, F, hv, hN, hm⟩ := h.box
  have hO := Below.only hB (fun _ => False)
  exact ⟨⟨v, xs, F, hO.keep hv (fun h => h), hN.below hB, hm⟩, hO.keep h.L (fun h => h), hO.keep h.K (fun h => h), h.below.trans (hB.mono h.below.size), hO.keep h.q (fun h => h)⟩

/-- All lie in the memory as it is. -/
theorem AAt.now {w0 : World} {fn : FuncId} {p Bs Bq l D : Nat} {L : List It} {m : Nat} {W : World} (h : AAt w0 fn p Bs Bq l D L m W) : AAt w0 fn p Bs Bq l D L W.heap.size W := by
  obtain ⟨v, xs, F, hv, hN, hm⟩ := h.box
  exact ⟨⟨v, xs, F, hv, hN, fun k hk => let ⟨_, hc⟩ := hN.ft k hk; lt_of_obj hc⟩, h.L, h.K, h.below, h.q⟩

theorem Only.putObj (w : World) (l : Nat) (o : Obj) : Only (· = l) w (w.putObj l o) := ⟨rfl, rfl, rfl, by simp, fun _ _ hk => World.putObj_heap_other hk⟩

theorem info_item : (Try.prog.info? 34).map (fun i => (i.zero, i.size, i.bytes)) = some (some (.agg #[.int .u64 0, .int .i64 0, .slice none 0 0]), 3, 40) := by kernel_rfl

theorem setCell_box {W : World} {B : Nat} {v : Value} {t : TypeId} (v' : Value) (h : W.heap[B]? = some (.cells #[v] t (0, 0))) : (W.setCell ⟨B, 0, none⟩ v').heap[B]? = some (.cells #[v'] t (0, 0)) ∧ Only (· = B) W (W.setCell ⟨B, 0, none⟩ v') := by
  rw [setCell_eq_setRow W B 0 _ t (0, 0) v' h]
  have := stored_setRow (cs := (#[v] : Array Value).setIfInBounds 0 v') h
  exact ⟨this.blk, this.only⟩

set_option maxRecDepth 100000 in
set_option maxHeartbeats 2000000 in
theorem ayield (m : Nat) (w0 : World) (fn : FuncId) (p Bs Bq l D : Nat) (hqs : Bq ≠ Bs) (hql : Bq ≠ l) (hBl : Bs ≠ l) (hDl : D ≠ l) (hDB : D ≠ Bs) (h0B : w0.heap.size ≤ Bs) (h0l : w0.heap.size ≤ l) (L : List It) (x : It) (y : Value) (W : World)
    (mb : Nat) (h : AAt w0 fn p Bs Bq l D L mb W) (hy : Own8 W w0.heap.size y x.data) (hym : ∀ k, y.ownBlock = some k → mb ≤ k) (hlen : L.length ≤ 200000) :
    YieldAt Fence.wide m Try.prog l #[.agg #[.int .u64 x.no, .int .i64 x.size, y]] W fun e W' => e = .returned (.bool true) ∧ AAt w0 fn p Bs Bq l D (L ++ [x]) W'.heap.size W' := by
  obtain ⟨i0, hi, hz0, hz1, hz2⟩ := info_parts info_item
  obtain ⟨ya, yc, ey⟩ := own_shape hy
  refine ⟨fn, #[.pointer (some ⟨p, 0, none⟩), undef, .slice none 0 0, .pointer (some ⟨Bs, 0, none⟩), undef, .pointer (some ⟨p, 0, none⟩), .bool false, .pointer (some ⟨p, 0, none⟩), .func (.func 67) #[] #[.pointer (some ⟨Bq, 0, none⟩)], .agg #[.int .u64 x.no, .int .i64 x.size, y], undef, undef, undef, undef, undef], allAssign, allBody, by simpa [allRec] using run_yield (P := Try.prog) (args := #[.agg #[.int .u64 x.no, .int .i64 x.size, y]]) h.L rfl, roundIn_of_wpIn trivial ?_⟩
  have ea : allAssign = Code.region _ _ _ := rfl
  rw [ea]
  clear ea
  have h1 := h.later ((Below.refl _ _).alloc (Nat.le_refl _) (.cells #[.int .u64 x.no, .int .i64 x.size, .slice ya x.data.length yc] 34))
  have hy1 := own_below hy ((Below.refl _ _).alloc (Nat.le_refl _) (.cells #[.int .u64 x.no, .int .i64 x.size, .slice ya x.data.length yc] 34))
  have hg1 := alloc_block_new W (.cells #[.int .u64 x.no, .int .i64 x.size, .slice ya x.data.length yc] 34)
  rw [ey] at hy1 hym ⊢
  have HYM := Lib.hid hym
  clear h hy hym ey
  gi_wp2_with (rw [Oper.semAt_eq _ _ _ (fun c h => by cases h)]; go_simp; try go_bits)
  obtain ⟨g, eg⟩ : ∃ g, W.heap.size = g := ⟨_, rfl⟩
  rw [eg] at hg1
  rw [show (some (⟨W.heap.size, 0, none⟩ : Addr)) = some ⟨g, 0, none⟩ by rw [eg]]
  generalize W.alloc (.cells #[.int .u64 x.no, .int .i64 x.size, .slice ya x.data.length yc] 34) = W1 at *
  clear eg
  obtain ⟨v, xs, F, hv, hN, hFm⟩ := h1.box
  have HFM := Lib.hid hFm
  clear hFm
  have hl : l < W1.heap.size := lt_of_obj h1.L
  have hbr := run_beginRound (P := Try.prog) h1.L rfl
  have hP := Only.putObj W1 l (.loop { allRec fn p Bs Bq D .ready none with state := .busy })
  have hL2 := World.putObj_heap_same (o := .loop { allRec fn p Bs Bq D .ready none with state := .busy }) hl
  have hN2 := hN.other h1.L (fun c e => by cases e) (fun c e => by cases e) hP
  have hy2 := own8_other hy1 h1.L (fun c e => by cases e) hP
  have hgl : g ≠ l := fun e => by subst e; rw [h1.L] at hg1; cases hg1
  have hg2 := hP.keep hg1 hgl
  have hv2 := hP.keep hv hBl
  have hK2 := hP.keep h1.K hDl
  have hq2 := hP.keep h1.q hql
  have hb2 : Below w0.heap.size w0 _ := h1.below.trans (hP.below h1.below.size (fun k hk e => by omega))
  refine ⟨_, hbr, ?_⟩
  generalize W1.putObj l (.loop { allRec fn p Bs Bq D .ready none with state := .busy }) = W2 at *
  have HL2 := Lib.hid hL2
  have HN2 := Lib.hid hN2
  have HY2 := Lib.hid hy2
  have HV2 := Lib.hid hv2
  have HK2 := Lib.hid hK2
  have HQ2 := Lib.hid hq2
  have HB2 := Lib.hid hb2
  have c0 : W2.cell? ⟨Bs, 0, none⟩ = some v := cell_of_block hv2 0
  have x0 : W2.cell? ⟨g, 0, none⟩ = _ := cell_of_block hg2 0
  have x1 : W2.cell? ⟨g, 1, none⟩ = _ := cell_of_block hg2 1
  have x2 : W2.cell? ⟨g, 2, none⟩ = _ := cell_of_block hg2 2
  dsimp at x0 x1 x2
  have hl2 := lt_of_obj hL2
  have hB2lt := lt_of_obj hv2
  have hD2 := lt_of_obj hK2
  clear hL2 hN2 hy2 hv2 hK2 hq2 hb2 hbr h1 hN hv hP hg1 hg2 hgl hl hy1
  have eb : allBody = Code.block _ (Code.region _ _ _) := rfl
  rw [eb]
  clear eb
  gi_wp2_with (first
    | (gi_at_builtin; refine wpListIn_append_own _ rfl _ _ 49 rfl w0.heap.size 34 i0 (.agg #[.int .u64 0, .int .i64 0, .slice none 0 0]) 3 40 Try.underlying49 hi hz0 hz1 hz2 rfl (by decide) _ _ _ rfl (HN2.out.row.alloc _) ⟨W2.heap.size, 0, none⟩ 1 1 [.int .u64 x.no, .int .i64 x.size, .slice ya x.data.length yc] rfl rfl (three_new _ _ _ _ _) (by intro u hu; simp at hu; rcases hu with rfl | rfl | rfl <;> rfl) (by unfold maxLen; omega) (by omega) (by have := HB2.out.size; simp; omega) ?_; intro v' w3 hown' hg3 _
       have hA := (Below.refl W2.heap.size W2).alloc (Nat.le_refl _) (.cells #[.int .u64 x.no, .int .i64 x.size, .slice ya x.data.length yc] 34)
       have hg3' : (W2.alloc (.cells #[.int .u64 x.no, .int .i64 x.size, .slice ya x.data.length yc] 34)).grownBy w3 v.ownBlock := hg3
       have HN3 := Lib.hid ((HN2.out.below hA).snoc x (own_below HY2.out hA) (fun k hk hf => by have := HYM.out k hk; have := HFM.out k hf; omega) hown' hg3')
       obtain ⟨av2, cv2, rfl⟩ := own_shape hown'
       have hO3 : Only (fun k => v.ownBlock = some k) W2 w3 := (Below.only hA _).trans ((Only.refl _ _).grown hg3' (fun k hk _ => hk))
       have hv3 := hO3.keep HV2.out (HN2.out.ne_row HV2.out (fun c e => by injection e with _ e _; exact absurd e (by decide)))
       have c3 : w3.cell? ⟨Bs, 0, none⟩ = some v := cell_of_block hv3 0
       have f3 : w3.frozen? ⟨Bs, 0, none⟩ = false := free_of_block hv3 0
       have HO3 := Lib.hid hO3
       have HV3 := Lib.hid hv3
       clear hg3 hg3' hown' hA hO3 hv3
       simp only [Act.put, List.setIfInBounds_toArray, List.set_cons_succ, List.set_cons_zero])
    | (rw [Oper.semAt_eq _ _ _ (fun c h => by cases h)]; go_simp; try go_bits))
  obtain ⟨hv4, hO4⟩ := setCell_box (.slice av2 (L.length + 1) cv2) HV3.out
  have hN4 := HN3.out.other HV3.out (fun c e => by injection e with _ e _; exact absurd e (by decide)) (fun c e => by injection e with _ e _; exact absurd e (by decide)) hO4
  have hL4 := hO4.keep (HO3.out.keep HL2.out (HN2.out.ne_row HL2.out (fun c e => by cases e))) (fun e => hBl e.symm)
  have hK4 := hO4.keep (HO3.out.keep HK2.out (HN2.out.ne_row HK2.out (fun c e => by cases e))) hDB
  have hq4 := hO4.keep (HO3.out.keep HQ2.out (HN2.out.ne_row HQ2.out (fun c e => by injection e with _ e _; exact absurd e (by decide)))) hqs
  have hb4 : Below w0.heap.size w0 _ := (HB2.out.trans (HO3.out.below HB2.out.size (fun k hk e => by have := own_ge HN2.out.row k e; omega))).trans (hO4.below (Nat.le_trans HB2.out.size HO3.out.size) (fun k hk e => by omega))
  generalize w3.setCell ⟨Bs, 0, none⟩ (.slice av2 (L.length + 1) cv2) = w4 at *
  have hP := Only.putObj w4 l (.loop { { allRec fn p Bs Bq D .ready none with state := .busy } with state := if (none : Option Code).isNone then .ready else .done, pending := none })
  have hN5 := hN4.other hL4 (fun c e => by cases e) (fun c e => by cases e) hP
  refine ⟨_, _, run_endRound none hL4, rfl, ⟨_, _, _, hP.keep hv4 hBl, hN5, fun k hk => let ⟨_, hc⟩ := hN5.ft k hk; lt_of_obj hc⟩, World.putObj_heap_same (lt_of_obj hL4), hP.keep hK4 hDl, hb4.trans (hP.below hb4.size (fun k hk e => by omega)), hP.keep hq4 hql⟩

/-- At the head of a round of the iterator's. -/
def ARel (w0 : World) (fn : FuncId) (p Bs Bq l D : Nat) (L : List It) (i : Value) (wr : World) : Prop :=
  ∃ k : Nat, i = .int .i64 k ∧ k ≤ L.length ∧ AAt w0 fn p Bs Bq l D (L.take k) wr.heap.size wr

theorem row_cell {w : World} {base : Nat} {e : TypeId} {v : Value} {n : Nat} {xs : List Value} (h : w.ownsRow base e 3 v n xs) (hn : 0 < n) : ∃ g cap, v = .slice (some ⟨g, 0, none⟩) n cap ∧ g < w.heap.size ∧ n ≤ cap ∧ ∀ j, j < n * 3 → w.cell? ⟨g, j, none⟩ = xs[j]? := by
  rcases h.2 with ⟨_, h0⟩ | ⟨g, cap, cur, hv, hg, hh, hnc, hcm, hcs, hx⟩
  · omega
  · refine ⟨g, cap, hv, lt_of_obj hh, hnc, fun j hj => ?_⟩
    rw [cell_of_block hh, ← hx, List.getElem?_take_of_lt hj]
    simp

set_option maxRecDepth 100000 in
set_option maxHeartbeats 2000000 in
theorem all1 (w0 : World) (fn : FuncId) (p Bs Bq l D : Nat) (hqs : Bq ≠ Bs) (hql : Bq ≠ l) (hBl : Bs ≠ l) (hDl : D ≠ l) (hDB : D ≠ Bs) (h0B : w0.heap.size ≤ Bs) (h0l : w0.heap.size ≤ l) {r : Nat → Nat} {Q : QS} {rv : Value} {f n : Nat} {xs : List Value} (hQ : IsQ w0 p r Q rv f n xs) (W : World)
    (mb : Nat) (h : AAt w0 fn p Bs Bq l D [] mb W) (m : Nat) (hm : 1 ≤ m) :
    CallsIn Fence.wide m Try.prog 67 #[.func (.yield l) #[] #[], .pointer (some ⟨Bq, 0, none⟩)] W fun e W' => (∃ v, e = .returned v) ∧ AAt w0 fn p Bs Bq l D Q.L W'.heap.size W' := by
  have hQW := hQ.below h.below
  have c2 := hQW.c2
  have hq : W.cell? ⟨Bq, 0, none⟩ = some (.pointer (some ⟨p, 0, none⟩)) := cell_of_block h.q 0
  have HQ := Lib.hid hQ
  have H := Lib.hid h
  clear hQW hQ h
  have t1 : Fence.wide.fn 49 := trivial
  have t2 : Fence.wide.fn 48 := trivial
  refine callsIn_of_wp Try.func67 rfl trivial ?_ rfl
  simp only [Try.ntmps67, List.size_toArray, List.length_cons, List.length_nil, Nat.reduceAdd, Nat.reduceSub, Array.replicate_succ, Array.replicate_zero, List.push_toArray, List.append_toArray, List.nil_append, List.cons_append]
  gi_wp2
  gi_loopw [8] (ARel w0 fn p Bs Bq l D Q.L) (fun i _ => Q.L.length - (intOf i).toNat)
  case atStart => exact ⟨0, rfl, Nat.zero_le _, H.out.now⟩
  case round =>
    clear hq c2
    obtain ⟨k, rfl, hk, hA⟩ := hrel
    by_cases hlt : k < Q.L.length
    · obtain ⟨x, hx⟩ : ∃ x, Q.L[k]? = some x := ⟨_, List.getElem?_eq_getElem hlt⟩
      have hQr := HQ.out.below hA.below
      have hroom := hQr.room
      have hcap := hQr.cap
      have hff : f < n := by have := hQr.from_; omega
      obtain ⟨y, hy⟩ := hQr.rc k x hx
      obtain ⟨g, cap, erv, hg, hnc, hcell⟩ := row_cell hQr.ring (by omega)
      have hmod := Nat.mod_lt (f + k) (show 0 < n by omega)
      have x0 := (hcell ((f + k) % n * 3) (by omega)).trans hy.c0
      have x1 := (hcell ((f + k) % n * 3 + 1) (by omega)).trans hy.c1
      have x2 := (hcell ((f + k) % n * 3 + 2) (by omega)).trans hy.c2
      have hd := hQr.data x (List.mem_of_getElem? hx)
      have hy8 := hy.d.holds
      obtain ⟨ya, yc, ey⟩ := own_shape hy.d
      rw [ey] at x2 hy8
      have c0 := hQr.c0
      rw [erv] at c0
      have c1 := hQr.c1
      have hq : wr.cell? ⟨Bq, 0, none⟩ = some (.pointer (some ⟨p, 0, none⟩)) := cell_of_block hA.q 0
      have HA := Lib.hid hA
      have HX := Lib.hid hx
      have HY8 := Lib.hid hy8
      have hk2 : k ≤ 200000 := by omega
      have HLEN := Lib.hid (show (Q.L.take k).length = k by simp; omega)
      clear hA hx hQr hy hy8 hcell ey erv hg hnc hroom hmod
      gi_wp2_with (first
        | (gi_at_call 49; refine (callsIn_wide.2 (place_is k c0 c1 hff hcap hk2)).mono ?_; rintro e w1 ⟨rfl, nd, rfl⟩)
        | (gi_at_call 48; refine (callsIn_wide.2 (copied_is x.no x.size _ x.data _ (HY8.out.below (below_drewN (Below.refl _ _) _)) hd)).mono ?_; rintro e w4 ⟨v, rfl, ho, hB4⟩
           obtain ⟨av, cv, ev⟩ := own_shape ho
           subst ev
           have hA4 := HA.out.later ((below_drewN (Below.refl _ _) nd).trans hB4)
           obtain ⟨fn', tmps', as', bd', hyl, hR⟩ := ayield (m - 1) w0 fn p Bs Bq l D hqs hql hBl hDl hDB h0B h0l (Q.L.take k) x _ w4 _ hA4 (own_lower ho HA.out.below.size) (own_ge ho) (by rw [HLEN.out]; omega)
           have HR := Lib.hid hR
           clear ho hB4 hA4 hR))
      refine HR.out.mono ?_
      rintro e w5 ⟨rfl, hA5⟩
      have htk : Q.L.take (k + 1) = Q.L.take k ++ [x] := by rw [List.take_add_one, HX.out]; rfl
      rw [← htk] at hA5
      have HREL : Hid (ARel w0 fn p Bs Bq l D Q.L (.int .i64 (k + 1 : Nat)) w5) := ⟨k + 1, rfl, by omega, hA5⟩
      clear hA5 htk
      gi_wp2
      go_roundw
      case rel => exact HREL.out
      case measure => simp [intOf]; omega
    · have hkn : k = Q.L.length := by omega
      rw [hkn, List.take_of_length_le (Nat.le_refl _)] at hA
      have HA := Lib.hid hA
      clear hA hkn
      gi_wp2
      go_end0
      exact ⟨⟨_, rfl⟩, HA.out⟩
end Go.Proofs.Ythipfcmjpgbemaa

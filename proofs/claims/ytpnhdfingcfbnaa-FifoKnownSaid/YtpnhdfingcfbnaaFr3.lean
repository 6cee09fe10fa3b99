/- The document's queue: Push, walked. -/
import Derived.Test.YtpnhdfingcfbnaaFr2
import Derived.Laws.AppendOwnNone
namespace Go.Proofs.Ytpnhdfingcfbnaa
open Go.RowKit

/-- Items as cells. -/
def rCells : List It → List Value
  | [] => []
  | x :: L => .int .u64 x.no :: .int .i64 x.size :: .string (str8 x.data) :: rCells L
theorem rCells_len (L : List It) : (rCells L).length = L.length * 3 := by
  induction L with
  | nil => rfl
  | cons x L ih => simp only [rCells, List.length_cons, ih]; omega
theorem rCells_snoc (L : List It) (x : It) : rCells L ++ [.int .u64 x.no, .int .i64 x.size, .string (str8 x.data)] = rCells (L ++ [x]) := by
  induction L with
  | nil => rfl
  | cons y L ih => simp only [rCells, List.cons_append, ih]
theorem rCells_get : ∀ (L : List It) (i : Nat) (x : It), L[i]? = some x →
    (rCells L)[i * 3]? = some (.int .u64 x.no) ∧ (rCells L)[i * 3 + 1]? = some (.int .i64 x.size) ∧ (rCells L)[i * 3 + 2]? = some (.string (str8 x.data))
  | [], i, x, h => by simp at h
  | y :: L, 0, x, h => by
    simp at h
    subst h
    exact ⟨rfl, rfl, rfl⟩
  | y :: L, i + 1, x, h => by
    have ih := rCells_get L i x (by simpa using h)
    rw [show (i + 1) * 3 = i * 3 + 3 by omega]
    exact ih
theorem rCells_one (L : List It) : ∀ u ∈ rCells L, u.oneCell' = true := by
  induction L with
  | nil => intro u h; simp [rCells] at h
  | cons x L ih =>
    intro u h
    simp only [rCells, List.mem_cons] at h
    rcases h with rfl | rfl | rfl | h
    · rfl
    · rfl
    · rfl
    · exact ih u h

/-- The row's cells. -/
theorem RL.cells {w : World} {B : Nat} {ad : Addr} {n c : Nat} {L : List It} (h : RL w B (.slice (some ad) n c) L) : ∀ j u, (rCells L)[j]? = some u → w.cell? (ad.add j) = some u := by
  intro j u hu
  have hj : j < (rCells L).length := (List.getElem?_eq_some_iff.1 hu).1
  rw [rCells_len] at hj
  obtain ⟨x, hx⟩ : ∃ x, L[j / 3]? = some x := ⟨_, List.getElem?_eq_getElem (by omega)⟩
  obtain ⟨g, o, e, h0, h1, h2⟩ := h.at hx
  injection e with e
  subst e
  obtain ⟨k0, k1, k2⟩ := rCells_get L _ x hx
  rw [Addr.add_lit]
  rcases (show j = j / 3 * 3 ∨ j = j / 3 * 3 + 1 ∨ j = j / 3 * 3 + 2 by omega) with hh | hh | hh
  · rw [hh] at hu ⊢
    rw [k0] at hu
    injection hu with hu
    subst hu
    exact h0
  · rw [hh] at hu ⊢
    rw [k1] at hu
    injection hu with hu
    subst hu
    exact h1
  · rw [hh] at hu ⊢
    rw [k2] at hu
    injection hu with hu
    subst hu
    exact h2

/-- An owned row of items is such a row. -/
theorem rl_own {w : World} {B : Nat} {v : Value} {L : List It} (h : w.ownsRow B 42 3 v L.length (rCells L)) : RL w B v L := by
  rcases h.2 with ⟨hv, h0⟩ | ⟨g, cap, cur, hv, hg, hh, hnc, hcm, hcs, hx⟩
  · exact .inl ⟨hv, List.eq_nil_of_length_eq_zero h0⟩
  · refine .inr ⟨g, 0, cap, cur, hv, hg, hh, hnc, fun i x hi => ?_⟩
    have hil := (List.getElem?_eq_some_iff.1 hi).1
    obtain ⟨k0, k1, k2⟩ := rCells_get L i x hi
    rw [← hx] at k0 k1 k2
    rw [List.getElem?_take_of_lt (by omega)] at k0 k1 k2
    rw [Nat.zero_add]
    exact ⟨by simpa using k0, by simpa using k1, by simpa using k2⟩

theorem RL.raise {w : World} {B B' : Nat} {v : Value} {L : List It} (h : RL w B v L) (hB : ∀ k, v.ownBlock = some k → B' ≤ k) : RL w B' v L := by
  rcases h with h | ⟨g, o, c, cur, hv, hg, h⟩
  · exact .inl h
  · exact .inr ⟨g, o, c, cur, hv, hB g (by rw [hv]; rfl), h⟩

theorem info_ri : (Try.prog.info? 42).map (fun i => (i.zero, i.size, i.bytes)) = some (some (.agg #[.int .u64 0, .int .i64 0, .string ⟨#[]⟩]), 3, 32) := by kernel_rfl

set_option maxRecDepth 100000 in
theorem rpush_bad (no sz : Int) (s : ByteArray) (hz : sz < 0) {w : World} {v : Value} {Q : QS} (h : RL w 0 v Q.L) :
    Calls Try.prog 18 #[rq v Q, .agg #[.int .u64 no, .int .i64 sz, .string s]] w fun e w' => e = .returned (.tuple #[rq v Q, .int .i64 2]) ∧ Below w.heap.size w w' := by
  obtain ⟨ao, c, rfl⟩ := h.shape
  unfold rq
  clear h
  generalize Q.L.length = n at *
  generalize Q.items = items at *
  generalize Q.bound = bound at *
  generalize Q.drops = drops at *
  go_enter Try.func18, Try.ntmps18
  go_wp2_with fail
  exact bodyPost_ret (v := .tuple #[.agg #[.slice ao n c, .int .i64 items, .int .i64 bound, .int .u64 drops], .int .i64 2]) (by simp [results, Try.results18, go_sem]) rfl ⟨rfl, (((Below.refl _ _).alloc (Nat.le_refl _) _).alloc (by simp) _).alloc (by simp; omega) _⟩

/-- Behind Push. -/
def RPush (w : World) (Q : QS) (x : It) (e : Ending) (w' : World) : Prop :=
  ∃ v', e = .returned (.tuple #[rq v' (pushed Q x), .int .i64 0]) ∧ RL w' w.heap.size v' (Q.L ++ [x]) ∧ Below w.heap.size w w'

set_option maxRecDepth 100000 in
theorem rpush_full (x : It) {w : World} {B : Nat} {v : Value} {Q : QS} (h : RL w B v Q.L) (hf : Q.L.length ≤ 65536) (hi : Q.items ≤ 65536) (hs : sumQ Q.L ≤ Q.bound) (hb : Q.bound ≤ 9223372036854775807) (hr : roomB Q x.size = false) (hd : Q.drops ≤ 1000000) :
    Calls Try.prog 18 #[rq v Q, ri x] w fun e w' => e = .returned (.tuple #[rq v { Q with drops := Q.drops + 1 }, .int .i64 110]) ∧ Below w.heap.size w w' := by
  obtain ⟨ao, c, rfl⟩ := h.shape
  have hrr : ∀ w', Below w.heap.size w w' → Calls Try.prog 16 #[.agg #[.slice ao Q.L.length c, .int .i64 Q.items, .int .i64 Q.bound, .int .u64 Q.drops], .int .i64 x.size] w' fun e w'' => e = .returned (.bool false) ∧ Below w'.heap.size w' w'' := fun w' hB => by
    have := rroom_is (h.below hB) hf hi hs hb x.size
    rw [hr] at this
    exact this
  have HR := Lib.hid hrr
  have e1 : ¬ (x.size : Int) < 0 := by omega
  unfold rq ri
  clear h hr hrr hf hi hs hb
  generalize Q.L.length = n at *
  generalize Q.items = items at *
  generalize Q.bound = bound at *
  generalize Q.drops = drops at *
  generalize str8 x.data = s at *
  generalize x.no = no at *
  generalize x.size = sz at *
  have hB3 : Below w.heap.size w (((w.alloc (.cells #[.slice ao n c, .int .i64 items, .int .i64 bound, .int .u64 drops] 32)).alloc (.cells #[.int .u64 no, .int .i64 sz, .string s] 42)).alloc (.cells #[.slice none 0 0, .int .i64 0, .int .i64 0, .int .u64 0] 32)) := (((Below.refl _ _).alloc (Nat.le_refl _) _).alloc (by simp) _).alloc (by simp; omega) _
  have hG0 : (((w.alloc (.cells #[.slice ao n c, .int .i64 items, .int .i64 bound, .int .u64 drops] 32)).alloc (.cells #[.int .u64 no, .int .i64 sz, .string s] 42)).alloc (.cells #[.slice none 0 0, .int .i64 0, .int .i64 0, .int .u64 0] 32)).heap[w.heap.size]? = some (.cells #[.slice ao n c, .int .i64 items, .int .i64 bound, .int .u64 drops] 32 (0, 0)) := (alloc_block_old _ (by simp; omega)).trans ((alloc_block_old _ (by simp)).trans (alloc_block_new w _))
  have hG2 : (((w.alloc (.cells #[.slice ao n c, .int .i64 items, .int .i64 bound, .int .u64 drops] 32)).alloc (.cells #[.int .u64 no, .int .i64 sz, .string s] 42)).alloc (.cells #[.slice none 0 0, .int .i64 0, .int .i64 0, .int .u64 0] 32)).heap[w.heap.size + 1 + 1]? = some (.cells #[.slice none 0 0, .int .i64 0, .int .i64 0, .int .u64 0] 32 (0, 0)) := alloc_block_at _ _ (by simp)
  have H3 := Lib.hid (And.intro hB3 (And.intro hG0 hG2))
  clear hB3 hG0 hG2
  go_enter Try.func18, Try.ntmps18
  go_wp2_with fail
  refine (HR.out _ H3.out.1).mono ?_
  rintro e w4 ⟨rfl, hB4⟩
  obtain ⟨hB3, hG0, hG2⟩ := H3.out
  have h40 := (hB4.block _ (lt_of_obj hG0)).trans hG0
  have h42 := (hB4.block _ (lt_of_obj hG2)).trans hG2
  have hBw := hB3.trans (hB4.mono hB3.size)
  obtain ⟨g0, eg0⟩ : ∃ t, w.heap.size = t := ⟨_, rfl⟩
  obtain ⟨g2, eg2⟩ : ∃ t, g0 + 1 + 1 = t := ⟨_, rfl⟩
  rw [eg0] at h40 h42 ⊢
  rw [eg2] at h42 ⊢
  have hne : ¬ g0 = g2 := by omega
  have hne' : ¬ g2 = g0 := by omega
  have hlt : w.heap.size ≤ g2 := by omega
  have hlt0 : w.heap.size ≤ g0 := by omega
  have k0 : w4.cell? ⟨g0, 0, none⟩ = _ := cell_of_block h40 0
  have k1 : w4.cell? ⟨g0, 1, none⟩ = _ := cell_of_block h40 1
  have k2 : w4.cell? ⟨g0, 2, none⟩ = _ := cell_of_block h40 2
  have k3 : w4.cell? ⟨g0, 3, none⟩ = _ := cell_of_block h40 3
  have m0 : w4.cell? ⟨g2, 0, none⟩ = _ := cell_of_block h42 0
  have m1 : w4.cell? ⟨g2, 1, none⟩ = _ := cell_of_block h42 1
  have m2 : w4.cell? ⟨g2, 2, none⟩ = _ := cell_of_block h42 2
  have m3 : w4.cell? ⟨g2, 3, none⟩ = _ := cell_of_block h42 3
  have f0 := free_of_block h40 3
  have f1 := free_of_block h42 0
  have f2 := free_of_block h42 1
  have f3 := free_of_block h42 2
  have f4 := free_of_block h42 3
  dsimp at k0 k1 k2 k3 m0 m1 m2 m3
  have HB := Lib.hid hBw
  have HE0 := Lib.hid eg0
  clear hB3 hG0 hG2 h40 h42 hB4 HR H3 hBw eg0 eg2
  have hd1 : IntKind.u64.wrap ((drops : Int) + 1) = ((drops + 1 : Nat) : Int) := by rw [IntWalk.u64_in _ (by omega)]; omega
  go_wp2_with fail
  have hs0 := HE0.out
  refine bodyPost_ret (v := .tuple #[.agg #[.slice ao n c, .int .i64 items, .int .i64 bound, .int .u64 ((drops : Int) + 1)], .int .i64 110]) (by simp [results, Try.results18, go_sem, m0, m1, m2, m3, hne, hne']) rfl ⟨by rw [Int.natCast_add]; rfl, ?_⟩
  exact ((((HB.out.setCell (p := ⟨g0, 3, none⟩) hlt0 _).setCell (p := ⟨g2, 0, none⟩) hlt _).setCell (p := ⟨g2, 1, none⟩) hlt _).setCell (p := ⟨g2, 2, none⟩) hlt _).setCell (p := ⟨g2, 3, none⟩) hlt _

/-- A row appended onto nothing. -/
theorem wpList_append_rl {w : World} {ops : Array Oper} {rest : List Oper} {op : Oper} {a : Act} {Q : Exit → Act → World → Prop} (hgd : op.guard = none) (s x : Operand)
    (ho : op.op = .call { callee := .builtin .append, args := #[s, x], argTypes := #[29, 29] })
    {B : Nat} {v : Value} {L : List It} (hs : a.eval s = .slice none 0 0) (hx : a.eval x = v) (hR : RL w B v L) (hlen : L.length ≤ 65536)
    (h : ∀ v' w', w'.ownsRow w.heap.size 42 3 v' L.length (rCells L) → Below w.heap.size w w' → wpList Try.prog ops Q rest (a.put op.dst v') w') :
    wpList Try.prog ops Q (op :: rest) a w := by
  obtain ⟨i0, hi, hz0, hz1, hz2⟩ := info_parts info_ri
  rcases id hR with ⟨hv, rfl⟩ | ⟨g, o, c, cur, hv, hg, hh, hc, hcs⟩
  · subst hv
    exact wpList_append_own_none hgd s x _ ho w.heap.size 42 i0 3 Try.underlying29 hi _ 0 [] hs (World.ownsRow_nil w _ _ _) hx (h _ _ (World.ownsRow_nil w _ _ _) (Below.refl _ _))
  · subst hv
    refine wpList_append_own w hgd s x _ ho w.heap.size 42 i0 (.agg #[.int .u64 0, .int .i64 0, .string ⟨#[]⟩]) 3 32 Try.underlying29 hi hz0 hz1 hz2 rfl (by decide) (.slice none 0 0) 0 [] hs (World.ownsRow_nil w _ _ _) ⟨g, o, none⟩ L.length c (rCells L) hx (rCells_len L) hR.cells (rCells_one L) (by unfold maxLen; omega) (by omega) (Nat.le_refl _) (fun v' w' ho' hg' _ => h v' w' (by simpa using ho') ?_)
    exact ⟨hg'.os, hg'.tape, hg'.output, hg'.size, fun k hk => hg'.block k hk (by simp [Value.ownBlock])⟩

set_option maxRecDepth 100000 in
theorem rpush_ok (x : It) {w : World} {B : Nat} {v : Value} {Q : QS} (h : RL w B v Q.L) (hf : Q.L.length ≤ 65535) (hi : Q.items ≤ 65536) (hs : sumQ Q.L ≤ Q.bound) (hb : Q.bound ≤ 9223372036854775807) (hr : roomB Q x.size = true) :
    Calls Try.prog 18 #[rq v Q, ri x] w (RPush w Q x) := by
  obtain ⟨ao, c, rfl⟩ := h.shape
  have hrr : ∀ w', Below w.heap.size w w' → Calls Try.prog 16 #[.agg #[.slice ao Q.L.length c, .int .i64 Q.items, .int .i64 Q.bound, .int .u64 Q.drops], .int .i64 x.size] w' fun e w'' => e = .returned (.bool true) ∧ Below w'.heap.size w' w'' := fun w' hB => by
    have := rroom_is (h.below hB) (by omega) hi hs hb x.size
    rw [hr] at this
    exact this
  have HR := Lib.hid hrr
  have H := Lib.hid h
  have HSN := Lib.hid (rCells_snoc Q.L x)
  have e1 : ¬ (x.size : Int) < 0 := by omega
  unfold RPush pushed rq ri
  clear h hr hrr hi hs hb
  generalize Q.items = items at *
  generalize Q.bound = bound at *
  generalize Q.drops = drops at *
  generalize str8 x.data = s at *
  have hB3 : Below w.heap.size w (((w.alloc (.cells #[.slice ao Q.L.length c, .int .i64 items, .int .i64 bound, .int .u64 drops] 32)).alloc (.cells #[.int .u64 x.no, .int .i64 x.size, .string s] 42)).alloc (.cells #[.slice none 0 0, .int .i64 0, .int .i64 0, .int .u64 0] 32)) := (((Below.refl _ _).alloc (Nat.le_refl _) _).alloc (by simp) _).alloc (by simp; omega) _
  have hG0 : (((w.alloc (.cells #[.slice ao Q.L.length c, .int .i64 items, .int .i64 bound, .int .u64 drops] 32)).alloc (.cells #[.int .u64 x.no, .int .i64 x.size, .string s] 42)).alloc (.cells #[.slice none 0 0, .int .i64 0, .int .i64 0, .int .u64 0] 32)).heap[w.heap.size]? = some (.cells #[.slice ao Q.L.length c, .int .i64 items, .int .i64 bound, .int .u64 drops] 32 (0, 0)) := (alloc_block_old _ (by simp; omega)).trans ((alloc_block_old _ (by simp)).trans (alloc_block_new w _))
  have hG1 : (((w.alloc (.cells #[.slice ao Q.L.length c, .int .i64 items, .int .i64 bound, .int .u64 drops] 32)).alloc (.cells #[.int .u64 x.no, .int .i64 x.size, .string s] 42)).alloc (.cells #[.slice none 0 0, .int .i64 0, .int .i64 0, .int .u64 0] 32)).heap[w.heap.size + 1]? = some (.cells #[.int .u64 x.no, .int .i64 x.size, .string s] 42 (0, 0)) := (alloc_block_old _ (by simp)).trans (alloc_block_at _ _ (by simp))
  have hG2 : (((w.alloc (.cells #[.slice ao Q.L.length c, .int .i64 items, .int .i64 bound, .int .u64 drops] 32)).alloc (.cells #[.int .u64 x.no, .int .i64 x.size, .string s] 42)).alloc (.cells #[.slice none 0 0, .int .i64 0, .int .i64 0, .int .u64 0] 32)).heap[w.heap.size + 1 + 1]? = some (.cells #[.slice none 0 0, .int .i64 0, .int .i64 0, .int .u64 0] 32 (0, 0)) := alloc_block_at _ _ (by simp)
  have H3 := Lib.hid (And.intro hB3 (And.intro hG0 (And.intro hG1 hG2)))
  clear hB3 hG0 hG1 hG2
  go_enter Try.func18, Try.ntmps18
  go_wp2_with fail
  refine (HR.out _ H3.out.1).mono ?_
  rintro e w4 ⟨rfl, hB4⟩
  obtain ⟨hB3, hG0, hG1, hG2⟩ := H3.out
  have h40 := (hB4.block _ (lt_of_obj hG0)).trans hG0
  have h41 := (hB4.block _ (lt_of_obj hG1)).trans hG1
  have h42 := (hB4.block _ (lt_of_obj hG2)).trans hG2
  have hBw := hB3.trans (hB4.mono hB3.size)
  have h4 := H.out.below hBw
  obtain ⟨g0, eg0⟩ : ∃ t, w.heap.size = t := ⟨_, rfl⟩
  obtain ⟨g1, eg1⟩ : ∃ t, g0 + 1 = t := ⟨_, rfl⟩
  obtain ⟨g2, eg2⟩ : ∃ t, g1 + 1 = t := ⟨_, rfl⟩
  rw [eg0] at h40 h41 h42 ⊢
  rw [eg1] at h41 h42 ⊢
  rw [eg2] at h42 ⊢
  have hne : ¬ g0 = g2 := by omega
  have hne' : ¬ g2 = g0 := by omega
  have hlt : w.heap.size ≤ g2 := by omega
  have hlt0 : w.heap.size ≤ g0 := by omega
  have k0 : w4.cell? ⟨g0, 0, none⟩ = _ := cell_of_block h40 0
  dsimp at k0
  have HB := Lib.hid hBw
  have HE0 := Lib.hid eg0
  have H4 := Lib.hid h4
  have H40 := Lib.hid h40
  have H41 := Lib.hid h41
  have H42 := Lib.hid h42
  clear hB3 hG0 hG1 hG2 h40 h41 h42 hB4 HR H3 hBw eg0 eg1 eg2 h4 H
  go_wp2_with (first | (at_builtin; refine wpList_append_rl rfl (.tmp 21) (.tmp 23) rfl rfl rfl H4.out (by omega) ?_))
  intro v1 w5 ho1 hB5
  have h50 := (hB5.block _ (lt_of_obj H40.out)).trans H40.out
  have h51 := (hB5.block _ (lt_of_obj H41.out)).trans H41.out
  have h52 := (hB5.block _ (lt_of_obj H42.out)).trans H42.out
  have hBx := HB.out.trans (hB5.mono HB.out.size)
  have hsz := HB.out.size
  have hn0 := lt_of_obj H40.out
  have hn1 := lt_of_obj H41.out
  have hn2 := lt_of_obj H42.out
  have hn5 := hB5.size
  have x0 : w5.cell? ⟨g1, 0, none⟩ = _ := cell_of_block h51 0
  have x1 : w5.cell? ⟨g1, 1, none⟩ = _ := cell_of_block h51 1
  have x2 : w5.cell? ⟨g1, 2, none⟩ = _ := cell_of_block h51 2
  dsimp at x0 x1 x2
  have HO1 := Lib.hid ho1
  have HBX := Lib.hid hBx
  have H50 := Lib.hid h50
  have H52 := Lib.hid h52
  have hv0 : ∀ k, v1.ownBlock = some k → w4.heap.size ≤ k := own_ge ho1
  have HV0 := Lib.hid hv0
  clear k0 ho1 hB5 hBx h50 h51 h52 H40 H41 H42 HB H4 hv0
  obtain ⟨i0, hi, hz0, hz1, hz2⟩ := info_parts info_ri
  go_wp2_with (first | (at_builtin; refine wpList_append_row _ rfl (.tmp 25) (.tmp 27) _ rfl 42 i0 (.agg #[.int .u64 0, .int .i64 0, .string ⟨#[]⟩]) 3 32 Try.underlying29 hi hz0 hz1 hz2 rfl (by decide) v1 Q.L.length (rCells Q.L) rfl ?_ ⟨w5.heap.size, 0, none⟩ 1 1 [.int .u64 x.no, .int .i64 x.size, .string s] rfl rfl (three_new _ _ _ _ _) ?_ ?_ ?_ ?_))
  · exact (own_lower HO1.out (Nat.zero_le _)).alloc _
  · intro u hu
    simp at hu
    rcases hu with rfl | rfl | rfl <;> rfl
  · unfold maxLen; omega
  · omega
  · intro v2 w6 ho2 hg2 hnew
    have hA := (Below.refl w5.heap.size w5).alloc (Nat.le_refl _) (.cells #[.int .u64 x.no, .int .i64 x.size, .string s] 42)
    have hO : Only (fun k => v1.ownBlock = some k) w5 w6 := (Below.only hA _).trans ((Only.refl _ _).grown hg2 (fun k hk _ => hk))
    have hs5 := HBX.out.size
    have hge : ∀ k, v2.ownBlock = some k → w4.heap.size ≤ k := fun k hk => by
      rcases hnew with e | e
      · exact HV0.out k (by rw [← e]; exact hk)
      · rw [hk] at e
        injection e with e
        subst e
        exact Nat.le_succ_of_le hn5
    have hl : (Q.L ++ [x]).length = Q.L.length + 1 := by simp
    rw [HSN.out, ← hl] at ho2
    obtain ⟨va, vc, ev⟩ := own_shape ho2
    have hR := (rl_own ho2).raise (fun k hk => Nat.le_trans hsz (hge k hk))
    rw [hl] at ev
    subst ev
    have h60 := hO.keep H50.out (fun e => by have := HV0.out _ e; omega)
    have h62 := hO.keep H52.out (fun e => by have := HV0.out _ e; omega)
    have hB6 := HBX.out.trans (hO.below HBX.out.size (fun k hk e => by have := HV0.out _ e; omega))
    have k0 : w6.cell? ⟨g0, 0, none⟩ = _ := cell_of_block h60 0
    have k1 : w6.cell? ⟨g0, 1, none⟩ = _ := cell_of_block h60 1
    have k2 : w6.cell? ⟨g0, 2, none⟩ = _ := cell_of_block h60 2
    have k3 : w6.cell? ⟨g0, 3, none⟩ = _ := cell_of_block h60 3
    have m0 : w6.cell? ⟨g2, 0, none⟩ = _ := cell_of_block h62 0
    have m1 : w6.cell? ⟨g2, 1, none⟩ = _ := cell_of_block h62 1
    have m2 : w6.cell? ⟨g2, 2, none⟩ = _ := cell_of_block h62 2
    have m3 : w6.cell? ⟨g2, 3, none⟩ = _ := cell_of_block h62 3
    have f0 := free_of_block h60 0
    have f1 := free_of_block h62 0
    have f2 := free_of_block h62 1
    have f3 := free_of_block h62 2
    have f4 := free_of_block h62 3
    dsimp at k0 k1 k2 k3 m0 m1 m2 m3
    have HR6 := Lib.hid hR
    have HB6 := Lib.hid hB6
    have HGE := Lib.hid hge
    clear hA hO hs5 hge hl ho2 hR h60 h62 hB6 hg2 hnew H50 H52 HO1 HBX HV0 x0 x1 x2 HSN hi hz0 hz1 hz2
    go_wp2_with fail
    have hO7 : Only (fun k => k = g0 ∨ k = g2) w6 (((((w6.setCell ⟨g0, 0, none⟩ (.slice va (Q.L.length + 1) vc)).setCell ⟨g2, 0, none⟩ (.slice va (Q.L.length + 1) vc)).setCell ⟨g2, 1, none⟩ (.int .i64 items)).setCell ⟨g2, 2, none⟩ (.int .i64 bound)).setCell ⟨g2, 3, none⟩ (.int .u64 drops)) :=
      Only.setCell (p := ⟨g2, 3, none⟩) (Only.setCell (p := ⟨g2, 2, none⟩) (Only.setCell (p := ⟨g2, 1, none⟩) (Only.setCell (p := ⟨g2, 0, none⟩) (Only.setCell (p := ⟨g0, 0, none⟩) (Only.refl _ w6) (fun _ => .inl rfl) _) (fun _ => .inr rfl) _) (fun _ => .inr rfl) _) (fun _ => .inr rfl) _) (fun _ => .inr rfl) _
    refine bodyPost_ret (v := .tuple #[.agg #[.slice va (Q.L.length + 1) vc, .int .i64 items, .int .i64 bound, .int .u64 drops], .int .i64 0]) (by simp [results, Try.results18, go_sem, m0, m1, m2, m3, hne, hne']) rfl ⟨_, rfl, HR6.out.keep hO7 (fun k hk e => by have := HGE.out k hk; omega), HB6.out.trans (hO7.below HB6.out.size (fun k hk e => by omega))⟩
end Go.Proofs.Ytpnhdfingcfbnaa

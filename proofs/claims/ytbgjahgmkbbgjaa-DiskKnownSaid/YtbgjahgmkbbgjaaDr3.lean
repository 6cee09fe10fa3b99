/- The document's disk: Put, walked. -/
import Derived.Test.YtbgjahgmkbbgjaaDr2
import Derived.Deep.RegionLaw
namespace Go.Proofs.Ytbgjahgmkbbgjaa
open Go.RowKit

/-- Writes as cells. -/
def wCells : List (Nat × List Nat) → List Value
  | [] => []
  | (a, d) :: L => .int .i64 a :: .string (str8 d) :: wCells L
theorem wCells_len (L : List (Nat × List Nat)) : (wCells L).length = L.length * 2 := by
  induction L with
  | nil => rfl
  | cons x L ih => obtain ⟨a, d⟩ := x; simp only [wCells, List.length_cons, ih]; omega
theorem wCells_snoc (L : List (Nat × List Nat)) (a : Nat) (d : List Nat) : wCells L ++ [.int .i64 a, .string (str8 d)] = wCells (L ++ [(a, d)]) := by
  induction L with
  | nil => rfl
  | cons y L ih => obtain ⟨a, d⟩ := y; simp only [wCells, List.cons_append, ih]
theorem wCells_get : ∀ (L : List (Nat × List Nat)) (i a : Nat) (d : List Nat), L[i]? = some (a, d) → (wCells L)[i * 2]? = some (.int .i64 a) ∧ (wCells L)[i * 2 + 1]? = some (.string (str8 d))
  | [], i, a, d, h => by simp at h
  | (b, e) :: L, 0, a, d, h => by
    simp at h
    obtain ⟨rfl, rfl⟩ := h
    exact ⟨rfl, rfl⟩
  | (b, e) :: L, i + 1, a, d, h => by
    have ih := wCells_get L i a d (by simpa using h)
    rw [show (i + 1) * 2 = i * 2 + 2 by omega]
    exact ih
theorem wCells_one (L : List (Nat × List Nat)) : ∀ u ∈ wCells L, u.oneCell' = true := by
  induction L with
  | nil => intro u h; simp [wCells] at h
  | cons x L ih =>
    obtain ⟨a, d⟩ := x
    intro u h
    simp only [wCells, List.mem_cons] at h
    rcases h with rfl | rfl | h
    · rfl
    · rfl
    · exact ih u h
theorem RW.cells {w : World} {B : Nat} {ad : Addr} {n c : Nat} {L : List (Nat × List Nat)} (h : RW w B (.slice (some ad) n c) L) : ∀ j u, (wCells L)[j]? = some u → w.cell? (ad.add j) = some u := by
  intro j u hu
  have hj : j < (wCells L).length := (List.getElem?_eq_some_iff.1 hu).1
  rw [wCells_len] at hj
  obtain ⟨⟨a, d⟩, hx⟩ : ∃ x, L[j / 2]? = some x := ⟨_, List.getElem?_eq_getElem (by omega)⟩
  obtain ⟨g, e, h0, h1⟩ := h.at hx
  injection e with e
  subst e
  obtain ⟨k0, k1⟩ := wCells_get L _ a d hx
  rw [Addr.add_lit, Nat.zero_add]
  rcases (show j = j / 2 * 2 ∨ j = j / 2 * 2 + 1 by omega) with hh | hh
  · rw [hh] at hu ⊢
    rw [k0] at hu
    injection hu with hu
    subst hu
    exact h0
  · rw [hh] at hu ⊢
    rw [k1] at hu
    injection hu with hu
    subst hu
    exact h1
theorem rw_own {w : World} {B : Nat} {v : Value} {L : List (Nat × List Nat)} (h : w.ownsRow B 81 2 v L.length (wCells L)) : RW w B v L := by
  rcases h.2 with ⟨hv, h0⟩ | ⟨g, cap, cur, hv, hg, hh, hnc, hcm, hcs, hx⟩
  · exact .inl ⟨hv, List.eq_nil_of_length_eq_zero h0⟩
  · refine .inr ⟨g, cap, cur, hv, hg, hh, hnc, fun i a d hi => ?_⟩
    have hil := (List.getElem?_eq_some_iff.1 hi).1
    obtain ⟨k0, k1⟩ := wCells_get L i a d hi
    rw [← hx] at k0 k1
    rw [List.getElem?_take_of_lt (by omega)] at k0 k1
    exact ⟨by simpa using k0, by simpa using k1⟩
theorem RW.raise {w : World} {B B' : Nat} {v : Value} {L : List (Nat × List Nat)} (h : RW w B v L) (hB : ∀ k, v.ownBlock = some k → B' ≤ k) : RW w B' v L := by
  rcases h with h | ⟨g, c, cur, hv, hg, h⟩
  · exact .inl h
  · exact .inr ⟨g, c, cur, hv, hB g (by rw [hv]; rfl), h⟩

theorem info_rw : (Try.prog.info? 81).map (fun i => (i.zero, i.size, i.bytes)) = some (some (.agg #[.int .i64 0, .string ⟨#[]⟩]), 2, 24) := by kernel_rfl

/-- A row appended onto nothing. -/
theorem wpList_append_rw {w : World} {ops : Array Oper} {rest : List Oper} {op : Oper} {a : Act} {Q : Exit → Act → World → Prop} (hgd : op.guard = none) (s x : Operand)
    (ho : op.op = .call { callee := .builtin .append, args := #[s, x], argTypes := #[64, 64] })
    {B : Nat} {v : Value} {L : List (Nat × List Nat)} (hs : a.eval s = .slice none 0 0) (hx : a.eval x = v) (hR : RW w B v L) (hlen : L.length ≤ 1000000)
    (h : ∀ v' w', w'.ownsRow w.heap.size 81 2 v' L.length (wCells L) → Below w.heap.size w w' → wpList Try.prog ops Q rest (a.put op.dst v') w') :
    wpList Try.prog ops Q (op :: rest) a w := by
  obtain ⟨i0, hi, hz0, hz1, hz2⟩ := info_parts info_rw
  rcases id hR with ⟨hv, rfl⟩ | ⟨g, c, cur, hv, hg, hh, hc, hcs⟩
  · subst hv
    exact wpList_append_own_none hgd s x _ ho w.heap.size 81 i0 2 Try.underlying64 hi _ 0 [] hs (World.ownsRow_nil w _ _ _) hx (h _ _ (World.ownsRow_nil w _ _ _) (Below.refl _ _))
  · subst hv
    refine wpList_append_own w hgd s x _ ho w.heap.size 81 i0 (.agg #[.int .i64 0, .string ⟨#[]⟩]) 2 24 Try.underlying64 hi hz0 hz1 hz2 rfl (by decide) (.slice none 0 0) 0 [] hs (World.ownsRow_nil w _ _ _) ⟨g, 0, none⟩ L.length c (wCells L) hx (wCells_len L) hR.cells (wCells_one L) (by unfold maxLen; omega) (by omega) (Nat.le_refl _) (fun v' w' ho' hg' _ => h v' w' (by simpa using ho') ?_)
    exact ⟨hg'.os, hg'.tape, hg'.output, hg'.size, fun k hk => hg'.block k hk (by simp [Value.ownBlock])⟩

/-- Behind Put. -/
def RPut (w : World) (dur : List Nat) (L : List (Nat × List Nat)) (c : Int) (e : Ending) (w' : World) : Prop :=
  ∃ v', e = .returned (.tuple #[rd dur v', .int .i64 c]) ∧ RW w' w.heap.size v' L ∧ Below w.heap.size w w'

set_option maxRecDepth 100000 in
theorem rput_same (dur : List Nat) (ao : Option Addr) (m c : Nat) (a : Int) (d : List Nat) (hN : dur.length ≤ 65536) (hd : d.length ≤ 1000000) (r : Int) (h : (liesB dur.length a d.length = false ∧ r = 130) ∨ (liesB dur.length a d.length = true ∧ d = [] ∧ r = 0)) (w : World) :
    Calls Try.prog 35 #[rd dur (.slice ao m c), .int .i64 a, .string (str8 d)] w fun e w' => e = .returned (.tuple #[rd dur (.slice ao m c), .int .i64 r]) ∧ Below w.heap.size w w' := by
  have hB : Below w.heap.size w ((w.alloc (.cells #[.string (str8 dur), .slice ao m c] 66)).alloc (.cells #[.string ⟨#[]⟩, .slice none 0 0] 66)) := ((Below.refl _ _).alloc (Nat.le_refl _) _).alloc (by simp) _
  have hg0 : ((w.alloc (.cells #[.string (str8 dur), .slice ao m c] 66)).alloc (.cells #[.string ⟨#[]⟩, .slice none 0 0] 66)).heap[w.heap.size]? = some (.cells #[.string (str8 dur), .slice ao m c] 66 (0, 0)) := (alloc_block_old _ (by simp)).trans (alloc_block_new w _)
  have hg1 : ((w.alloc (.cells #[.string (str8 dur), .slice ao m c] 66)).alloc (.cells #[.string ⟨#[]⟩, .slice none 0 0] 66)).heap[w.heap.size + 1]? = some (.cells #[.string ⟨#[]⟩, .slice none 0 0] 66 (0, 0)) := alloc_block_at _ _ (by simp)
  have hl := rlies_is dur (.slice ao m c) ⟨_, _, _, rfl⟩ a d.length hN ((w.alloc (.cells #[.string (str8 dur), .slice ao m c] 66)).alloc (.cells #[.string ⟨#[]⟩, .slice none 0 0] 66))
  have hsz := str8_size d
  unfold rd at *
  have H := Lib.hid (And.intro hB (And.intro hg0 hg1))
  clear hB hg0 hg1
  rcases h with ⟨e, rfl⟩ | ⟨e, rfl, rfl⟩
  · rw [e] at hl
    have HL := Lib.hid hl
    clear e hl
    generalize str8 d = sd at *
    generalize str8 dur = s at *
    go_enter Try.func35, Try.ntmps35
    go_wp2_with fail
    refine HL.out.mono ?_
    rintro e w1 ⟨rfl, hB1⟩
    obtain ⟨hB, hg0, hg1⟩ := H.out
    have h0 := (hB1.block _ (lt_of_obj hg0)).trans hg0
    have h1 := (hB1.block _ (lt_of_obj hg1)).trans hg1
    have HBX := Lib.hid (hB.trans (hB1.mono hB.size))
    obtain ⟨g0, eg0⟩ : ∃ t, w.heap.size = t := ⟨_, rfl⟩
    obtain ⟨g1, eg1⟩ : ∃ t, g0 + 1 = t := ⟨_, rfl⟩
    rw [eg0] at h0 h1 ⊢
    rw [eg1] at h1 ⊢
    have hge : w.heap.size ≤ g1 := by omega
    have k0 : w1.cell? ⟨g0, 0, none⟩ = _ := cell_of_block h0 0
    have k1 : w1.cell? ⟨g0, 1, none⟩ = _ := cell_of_block h0 1
    have m0 : w1.cell? ⟨g1, 0, none⟩ = _ := cell_of_block h1 0
    have m1 : w1.cell? ⟨g1, 1, none⟩ = _ := cell_of_block h1 1
    have f0 := free_of_block h1 0
    have f1 := free_of_block h1 1
    dsimp at k0 k1 m0 m1
    have hne : ¬ g0 = g1 := by omega
    have HE := Lib.hid eg0
    clear hB hg0 hg1 h0 h1 hB1 eg0 eg1 H HL
    go_wp2_with fail
    have eg0 := HE.out
    exact bodyPost_ret (v := .tuple #[.agg #[.string s, .slice ao m c], .int .i64 130]) (by simp [results, Try.results35, go_sem, m0, m1]) rfl ⟨rfl, (HBX.out.setCell (p := ⟨g1, 0, none⟩) hge _).setCell (p := ⟨g1, 1, none⟩) hge _⟩
  · rw [e] at hl
    have HL := Lib.hid hl
    clear e hl hsz
    rw [str8_empty] at *
    generalize str8 dur = s at *
    go_enter Try.func35, Try.ntmps35
    go_wp2_with fail
    refine HL.out.mono ?_
    rintro e w1 ⟨rfl, hB1⟩
    obtain ⟨hB, hg0, hg1⟩ := H.out
    have h0 := (hB1.block _ (lt_of_obj hg0)).trans hg0
    have h1 := (hB1.block _ (lt_of_obj hg1)).trans hg1
    have HBX := Lib.hid (hB.trans (hB1.mono hB.size))
    obtain ⟨g0, eg0⟩ : ∃ t, w.heap.size = t := ⟨_, rfl⟩
    obtain ⟨g1, eg1⟩ : ∃ t, g0 + 1 = t := ⟨_, rfl⟩
    rw [eg0] at h0 h1 ⊢
    rw [eg1] at h1 ⊢
    have hge : w.heap.size ≤ g1 := by omega
    have k0 : w1.cell? ⟨g0, 0, none⟩ = _ := cell_of_block h0 0
    have k1 : w1.cell? ⟨g0, 1, none⟩ = _ := cell_of_block h0 1
    have m0 : w1.cell? ⟨g1, 0, none⟩ = _ := cell_of_block h1 0
    have m1 : w1.cell? ⟨g1, 1, none⟩ = _ := cell_of_block h1 1
    have f0 := free_of_block h1 0
    have f1 := free_of_block h1 1
    dsimp at k0 k1 m0 m1
    have hne : ¬ g0 = g1 := by omega
    clear hB hg0 hg1 h0 h1 hB1 eg0 eg1 H HL
    go_wp2_with fail
    exact bodyPost_ret (v := .tuple #[.agg #[.string s, .slice ao m c], .int .i64 0]) (by simp [results, Try.results35, go_sem, m0, m1]) rfl ⟨rfl, (HBX.out.setCell (p := ⟨g1, 0, none⟩) hge _).setCell (p := ⟨g1, 1, none⟩) hge _⟩

theorem two_newd (w : World) (x y : Value) (e : TypeId) : ∀ j u, [x, y][j]? = some u → (w.alloc (.cells #[x, y] e)).drew.cell? ((⟨w.heap.size, 0, none⟩ : Addr).add j) = some u := two_new w x y e

set_option maxRecDepth 100000 in
set_option maxHeartbeats 1000000 in
theorem rput_ok (dur : List Nat) {w : World} {B : Nat} {v : Value} {L : List (Nat × List Nat)} (h : RW w B v L) (a : Nat) (d : List Nat) (hN : dur.length ≤ 65536) (hd : d.length ≤ 1000000) (h0 : 0 < d.length) (hl : liesB dur.length a d.length = true) (hL : L.length ≤ 100000) :
    Calls Try.prog 35 #[rd dur v, .int .i64 a, .string (str8 d)] w (RPut w dur (L ++ [(a, d)]) 0) := by
  obtain ⟨ao, c, rfl⟩ := h.shape
  have hB : Below w.heap.size w ((w.alloc (.cells #[.string (str8 dur), .slice ao L.length c] 66)).alloc (.cells #[.string ⟨#[]⟩, .slice none 0 0] 66)) := ((Below.refl _ _).alloc (Nat.le_refl _) _).alloc (by simp) _
  have hg0 : ((w.alloc (.cells #[.string (str8 dur), .slice ao L.length c] 66)).alloc (.cells #[.string ⟨#[]⟩, .slice none 0 0] 66)).heap[w.heap.size]? = some (.cells #[.string (str8 dur), .slice ao L.length c] 66 (0, 0)) := (alloc_block_old _ (by simp)).trans (alloc_block_new w _)
  have hg1 : ((w.alloc (.cells #[.string (str8 dur), .slice ao L.length c] 66)).alloc (.cells #[.string ⟨#[]⟩, .slice none 0 0] 66)).heap[w.heap.size + 1]? = some (.cells #[.string ⟨#[]⟩, .slice none 0 0] 66 (0, 0)) := alloc_block_at _ _ (by simp)
  have hli := rlies_is dur (.slice ao L.length c) ⟨_, _, _, rfl⟩ a d.length hN ((w.alloc (.cells #[.string (str8 dur), .slice ao L.length c] 66)).alloc (.cells #[.string ⟨#[]⟩, .slice none 0 0] 66))
  rw [hl] at hli
  have hsz := str8_size d
  have hem : (str8 d).toList.isEmpty = false := by
    have : (str8 d).toList.length = d.length := by rw [Lib.toList_data, str8_data]; simp
    cases hh : (str8 d).toList with
    | nil => rw [hh] at this; simp at this; omega
    | cons x l => rfl
  have hh := h
  have HSN := Lib.hid (wCells_snoc L a d)
  unfold RPut rd at *
  have HH := Lib.hid hh
  have HLI := Lib.hid hli
  have H := Lib.hid (And.intro hB (And.intro hg0 hg1))
  clear hB hg0 hg1 hh h hli hl
  generalize str8 d = sd at *
  generalize str8 dur = s at *
  go_enter Try.func35, Try.ntmps35
  go_wp2_with fail
  refine HLI.out.mono ?_
  rintro e w1 ⟨rfl, hB1⟩
  obtain ⟨hB, hg0, hg1⟩ := H.out
  have h0 := (hB1.block _ (lt_of_obj hg0)).trans hg0
  have h1 := (hB1.block _ (lt_of_obj hg1)).trans hg1
  have hBx := hB.trans (hB1.mono hB.size)
  have HR := Lib.hid (HH.out.below hBx)
  have HBX := Lib.hid hBx
  obtain ⟨g0, eg0⟩ : ∃ t, w.heap.size = t := ⟨_, rfl⟩
  obtain ⟨g1, eg1⟩ : ∃ t, g0 + 1 = t := ⟨_, rfl⟩
  rw [eg0] at h0 h1 ⊢
  rw [eg1] at h1 ⊢
  have hge : w.heap.size ≤ g1 := by omega
  have k1 : w1.cell? ⟨g0, 1, none⟩ = _ := cell_of_block h0 1
  dsimp at k1
  have hne : ¬ g0 = g1 := by omega
  have hne' : ¬ g1 = g0 := by omega
  have H0 := Lib.hid h0
  have H1 := Lib.hid h1
  have hlt0 := lt_of_obj h0
  have hlt1 := lt_of_obj h1
  clear hB hg0 hg1 h0 h1 hB1 hBx eg0 eg1 H HLI HH
  go_wp2_with (first | (at_builtin; refine wpList_append_rw rfl (.tmp 19) (.tmp 21) rfl rfl rfl HR.out (by omega) ?_))
  intro v1 w5 ho1 hB5
  have h50 := (hB5.block _ (lt_of_obj H0.out)).trans H0.out
  have h51 := (hB5.block _ (lt_of_obj H1.out)).trans H1.out
  have hs5 := hB5.size
  have hsz1 := HBX.out.size
  have HO1 := Lib.hid ho1
  have HBX5 := Lib.hid (HBX.out.trans (hB5.mono HBX.out.size))
  have HV1 := Lib.hid (own_ge ho1)
  have H50 := Lib.hid h50
  have H51 := Lib.hid h51
  have k0 : w5.cell? ⟨g0, 0, none⟩ = _ := cell_of_block h50 0
  dsimp at k0
  clear k1 ho1 hB5 h50 h51 H0 H1 HBX HR
  obtain ⟨i0, hi, hz0, hz1, hz2⟩ := info_parts info_rw
  go_wp2_with fail
  go_region_held3 (fun w' => w'.cell? ⟨g0, 0, none⟩ = some (.string s)) (go_keep)
    ((refine step_append_row rfl (.tmp 25) (.tmp 29) 64 rfl 81 i0 (.agg #[.int .i64 0, .string ⟨#[]⟩]) 2 24 Try.underlying64 hi hz0 hz1 hz2 rfl (by decide) v1 L.length (wCells L) rfl ((own_lower HO1.out (Nat.zero_le _)).alloc _) ⟨w5.heap.size, 0, none⟩ 1 1 [.int .i64 a, .string sd] rfl rfl (two_newd _ _ _ _) (by intro u hu; simp at hu; rcases hu with rfl | rfl <;> rfl) (by unfold maxLen; omega) (by omega) ?_; intro v' w' hown' hg' hb'; obtain ⟨va, vc, rfl⟩ := own_shape hown'; have q0 : w'.cell? ⟨g0, 0, none⟩ = some (.string s) := cell_of_block (grown_keep hg' ((alloc_block_old _ (lt_of_obj H50.out)).trans H50.out) (fun e => by have := HV1.out _ e; omega)) 0; have q1 := (grown_keep hg' ((alloc_block_old _ (lt_of_obj H51.out)).trans H51.out) (fun e => by have := HV1.out _ e; omega)); have m0 : w'.cell? ⟨g1, 0, none⟩ = _ := cell_of_block q1 0; have m1 : w'.cell? ⟨g1, 1, none⟩ = _ := cell_of_block q1 1; have f0 := free_of_block q1 0; have f1 := free_of_block q1 1; dsimp at m0 m1; have HG := Lib.hid hg'; have HW := Lib.hid hown'; have HN := Lib.hid hb'; have HQ1 := Lib.hid q1; clear hg' hown' hb' q1))
  all_goals
    have hw := HW.out
    rw [HSN.out, show L.length + 1 = (L ++ [(a, d)]).length by simp] at hw
    have hgv : ∀ j, (Value.slice va (L.length + 1) vc).ownBlock = some j → w1.heap.size ≤ j := fun j hj => by
      rcases HN.out with e | e
      · exact HV1.out j (by rw [← e]; exact hj)
      · rw [hj] at e
        injection e with e
        have hx : (w5.alloc (.cells #[.int .i64 a, .string sd] 81)).drew.heap.size = w5.heap.size + 1 := by simp
        omega
    have hR0 : RW w' 0 (.slice va (L.length + 1) vc) (L ++ [(a, d)]) := by
      have := rw_own hw
      simpa using this
    have hR1 := hR0.raise (fun j hj => Nat.le_trans hsz1 (hgv j hj))
    have hO : Only (fun k => k = g1) w' ((w'.setCell ⟨g1, 0, none⟩ (.string s)).setCell ⟨g1, 1, none⟩ (.slice va (L.length + 1) vc)) := Only.setCell (S := fun k => k = g1) (p := ⟨g1, 1, none⟩) (Only.setCell (S := fun k => k = g1) (p := ⟨g1, 0, none⟩) (Only.refl _ w') (fun _ => rfl) _) (fun _ => rfl) _
    have hA := (Below.refl w5.heap.size w5).alloc (Nat.le_refl _) (.cells #[.int .i64 a, .string sd] 81)
    have hG : Only (fun k => v1.ownBlock = some k) w5 w' := (Below.only hA.drew _).trans ((Only.refl _ _).grown HG.out (fun k hk _ => hk))
    have hB6 := HBX5.out.trans (hG.below HBX5.out.size (fun k hk e => by have := HV1.out k e; omega))
    have HF := Lib.hid (And.intro (hR1.keep hO (fun j hj e => by have := hgv j hj; omega)) (hB6.trans (hO.below hB6.size (fun k hk e => by omega))))
    clear hw hgv hR0 hR1 hO hA hG hB6 HW HN HG HQ1
    go_wp2_with fail
    exact bodyPost_ret (v := .tuple #[.agg #[.string s, .slice va (L.length + 1) vc], .int .i64 0]) (by simp [results, Try.results35, go_sem, m0, m1]) rfl ⟨_, rfl, HF.out.1, HF.out.2⟩
end Go.Proofs.Ytbgjahgmkbbgjaa

/- New and grow, walked. -/
import Derived.Test.YthipfcmjpgbemaaFq4
namespace Go.Proofs.Ythipfcmjpgbemaa
open Go.RowKit

theorem run_copy_row3 {P : Program} (w : World) (dT sT ty elem : TypeId) (g o dLen dCap : Nat) (a : Addr) (sLen sCap : Nat) (cur : Array Value) (t : TypeId) (cs : List Value)
    (hu : P.underlying dT = some (.slice elem)) (hs : (P.info? elem).map (·.size) = some 3)
    (hg : w.heap[g]? = some (.cells cur t (0, 0))) (hn : cs.length = Nat.min sLen dLen * 3)
    (hsrc : ∀ j v, cs[j]? = some v → w.cell? (a.add j) = some v) (hfit : o + cs.length ≤ cur.size) (h1 : ∀ v ∈ cs, v.oneCell' = true) :
    (Builtin.copy_ #[dT, sT] ty #[.slice (some ⟨g, o, none⟩) dLen dCap, .slice (some a) sLen sCap]).run P w =
      .ok (goInt (Nat.min sLen dLen)) (w.setRow g (cur.toList.take o ++ cs ++ cur.toList.drop (o + cs.length)).toArray) := by
  have hl := run_loadCells_list (P := P) w a cs hsrc
  have hst := run_storeCells_at P g o t cs 0 cur w hg (by simpa using hfit) h1
  cases hq : P.info? elem with
  | none => simp [hq] at hs
  | some i =>
    have hi : i.size = 3 := by simpa [hq] using hs
    simp [Builtin.copy_, run_underlying hu, Builtin.lenOf, Builtin.firstCells, sizeOf, typeInfo, hq, hi, ← hn, hl, hst]

/-- The roles of a queue's blocks. -/
noncomputable def roleQ (p : Nat) (v : Value) (F : Nat → Prop) : Nat → Nat := by
  classical
  exact fun k => if k = p then 1 else if v.ownBlock = some k then 2 else if F k then 3 else 0

theorem new_bad (i s : Int) (h : i < 0 ∨ s < 0 ∨ 65536 < i) (w : World) : Calls Try.prog 26 #[.int .i64 i, .int .i64 s] w fun e w' => e = .returned (.tuple #[.pointer none, .int .i64 2]) ∧ w' = w := by
  by_cases h0 : i < 0
  · go_enter Try.func26, Try.ntmps26
    go_wp2_with fail
    go_ret2
    exact ⟨rfl, rfl⟩
  · by_cases h1 : s < 0
    · go_enter Try.func26, Try.ntmps26
      go_wp2_with fail
      go_ret2
      exact ⟨rfl, rfl⟩
    · have h2 : 65536 < i := by omega
      go_enter Try.func26, Try.ntmps26
      go_wp2_with fail
      go_ret2
      exact ⟨rfl, rfl⟩

/-- An empty queue. -/
def empty (i s : Nat) : QS := ⟨[], i, s, 0⟩

theorem new_is (i s : Nat) (hi : i ≤ 65536) (hs : s ≤ 9223372036854775807) (w : World) :
    Calls Try.prog 26 #[.int .i64 i, .int .i64 s] w fun e w' => ∃ p r, e = .returned (.tuple #[.pointer (some ⟨p, 0, none⟩), .int .i64 0]) ∧ IsQ w' p r (empty i s) (.slice none 0 0) 0 0 [] ∧ Below w.heap.size w w' ∧ ∀ k, r k ≠ 0 → w.heap.size ≤ k := by
  have h0 : ¬ (i : Int) < 0 := by omega
  have h1 : ¬ (s : Int) < 0 := by omega
  have h2 : ¬ 65536 < (i : Int) := by omega
  have HS := Lib.hid hs
  clear hs
  go_enter Try.func26, Try.ntmps26
  go_wp2_with fail
  go_ret2
  refine ⟨_, rfl, fun k => if k = w.heap.size then 1 else 0, ⟨alloc_block_new w _, World.ownsRow_nil _ _ _ _, fun i x h => by simp [empty] at h, .inr ⟨rfl, rfl⟩, by simp [empty], by omega, by simp [empty], hi, by simp [empty, sumQ], HS.out, by simp [empty], by simp, fun k hk => (by cases hk), ?_⟩, (Below.refl _ _).alloc (Nat.le_refl _) _, ?_⟩
  · intro k hk
    simp at hk
    simp
    omega
  · intro k hk
    simp at hk
    omega

theorem max8 (n : Nat) : ∃ m : Nat, m = max 8 (2 * n) := ⟨_, rfl⟩

theorem made_len (m : Nat) : (madeCells (Value.agg #[.int .u64 0, .int .i64 0, .slice none 0 0]).cells (m * 3)).size = m * 3 := by simp [madeCells]

theorem make_items (m : Nat) (hm : m ≤ 200000) : ∃ C : Array Value, C.size = m * 3 ∧
    ∀ w : World, (Instr.makeSlice 49 (.int .i64 m) (.int .i64 m)).run Try.prog w = .ok (.slice (some ⟨w.heap.size, 0, none⟩) m m) (w.alloc (.cells C 34)) := by
  obtain ⟨i0, hi, hz0, hz1, hz2⟩ := info_parts info_item
  refine ⟨_, made_len m, fun w => ?_⟩
  have h := run_makeSlice (P := Try.prog) w 49 34 i0 _ Try.underlying49 hi hz0 .i64 .i64 m m (by omega) (Int.le_refl _) (by rw [hz1]; simp; omega) (by rw [hz2]; omega) (by omega)
  rw [hz1] at h
  simpa using h

theorem run_copy_none3 {P : Program} (w : World) (dT sT ty elem : TypeId) (d a : Option Addr) (dLen dCap sLen sCap : Nat) (hu : P.underlying dT = some (.slice elem)) (hs : (P.info? elem).map (·.size) = some 3) (hn : Nat.min sLen dLen = 0) :
    (Builtin.copy_ #[dT, sT] ty #[.slice d dLen dCap, .slice a sLen sCap]).run P w = .ok (goInt 0) w := by
  cases hq : P.info? elem with
  | none => simp [hq] at hs
  | some i =>
    have hl : ∀ (x : Addr), (loadCells x 0).run P w = .ok #[] w := fun x => by simpa using run_loadCells_list (P := P) w x [] (by simp)
    cases d <;> cases a <;> simp [Builtin.copy_, run_underlying hu, Builtin.lenOf, Builtin.firstCells, sizeOf, typeInfo, hq, hn, storeCells, hl]

theorem NewI.one {base : Nat} {w : World} {F : Nat → Prop} {v : Value} {xs : List Value} {L : List It} (h : NewI base w F v xs L) : ∀ u ∈ xs, u.oneCell' = true := by
  intro u hu
  obtain ⟨j, hj⟩ := List.getElem?_of_mem hu
  have hl : xs.length = L.length * 3 := h.row.1
  have hjl : j < xs.length := (List.getElem?_eq_some_iff.1 hj).1
  obtain ⟨y, hy⟩ := h.cs (j / 3) _ (List.getElem?_eq_getElem (show j / 3 < L.length by omega))
  obtain ⟨ya, yc, ey⟩ := own_shape hy.d
  rcases (show j = j / 3 * 3 ∨ j = j / 3 * 3 + 1 ∨ j = j / 3 * 3 + 2 by omega) with e | e | e
  · rw [e, hy.c0] at hj; injection hj with hj; subst hj; rfl
  · rw [e, hy.c1] at hj; injection hj with hj; subst hj; rfl
  · rw [e, hy.c2] at hj; injection hj with hj; subst hj; rw [ey]; rfl

theorem set_block2 {w : World} {p : Nat} {a b c d e f g : Value} {T : TypeId} (h : w.heap[p]? = some (.cells #[a, b, c, d, e, f, g] T (0, 0))) (x y : Value) :
    ((w.setCell ⟨p, 0, none⟩ x).setCell ⟨p, 1, none⟩ y).heap[p]? = some (.cells #[x, y, c, d, e, f, g] T (0, 0)) ∧ Only (· = p) w ((w.setCell ⟨p, 0, none⟩ x).setCell ⟨p, 1, none⟩ y) := by
  refine ⟨?_, Only.setCell (p := ⟨p, 1, none⟩) (Only.setCell (p := ⟨p, 0, none⟩) (Only.refl (· = p) w) (fun _ => rfl) _) (fun _ => rfl) _⟩
  have h1 := setCell_block h 0 x
  exact setCell_block h1 1 y

theorem setRow_same {w : World} {g : Nat} {C : Array Value} {t : TypeId} (h : w.heap[g]? = some (.cells C t (0, 0))) : w.setRow g C = w := by
  have hh : (w.setRow g C).heap = w.heap := Array.ext_getElem? fun k => by
    by_cases e : k = g
    · subst e; rw [setRow_heap w k C C t (0, 0) h, h]
    · exact setRow_other w g k C e
  cases w
  simp [World.setRow] at hh ⊢
  exact hh

set_option maxRecDepth 100000 in
theorem grow_end {w w1 : World} {p : Nat} {r : Nat → Nat} {Q : QS} {rv : Value} {f n : Nat} {xs : List Value} {v : Value} {ys : List Value} {F : Nat → Prop} {m : Nat} {C : Array Value} (hQ1 : IsQ w1 p r Q rv f n xs) (hN : NewI w.heap.size w1 F v ys Q.L) (hB : Below w.heap.size w w1)
    (hr : ∀ k, r k ≠ 0 → k < w.heap.size) (hmn : Q.L.length < m) (hm : m ≤ 200000) (hC : C.size = m * 3) :
    ∃ w', (Builtin.copy_ #[49, 49] 3 #[.slice (some ⟨w1.heap.size, 0, none⟩) m m, v]).run Try.prog (((w1.setCell ⟨p, 0, none⟩ (.slice (some ⟨w1.heap.size, 0, none⟩) m m)).setCell ⟨p, 1, none⟩ (.int .i64 0)).alloc (.cells C 34)) = .ok (goInt Q.L.length) w' ∧
      ∃ r' xs', IsQ w' p r' Q (.slice (some ⟨w1.heap.size, 0, none⟩) m m) 0 m xs' ∧ Only (fun k => r k ≠ 0) w w' ∧ ∀ k, r' k ≠ 0 → r k ≠ 0 ∨ w.heap.size ≤ k := by
  classical
  have hp := hr p (by rw [hQ1.rp]; decide)
  have hs1 := hB.size
  obtain ⟨hb, hO⟩ := set_block2 hQ1.blk (.slice (some ⟨w1.heap.size, 0, none⟩) m m) (.int .i64 0)
  have hsz : ((w1.setCell ⟨p, 0, none⟩ (.slice (some ⟨w1.heap.size, 0, none⟩) m m)).setCell ⟨p, 1, none⟩ (.int .i64 0)).heap.size = w1.heap.size := by simp [World.setCell]
  have hvge := own_ge hN.row
  have hN2 := hN.keep hO (fun k hk e => by have := hN.ge k hk; omega) (fun k hk e => by have := hvge k hk; omega)
  have hA : Only (fun _ => False) ((w1.setCell ⟨p, 0, none⟩ (.slice (some ⟨w1.heap.size, 0, none⟩) m m)).setCell ⟨p, 1, none⟩ (.int .i64 0)) (((w1.setCell ⟨p, 0, none⟩ (.slice (some ⟨w1.heap.size, 0, none⟩) m m)).setCell ⟨p, 1, none⟩ (.int .i64 0)).alloc (.cells C 34)) := (Only.refl _ _).alloc _
  have hN3 := hN2.keep hA (fun _ _ h => h) (fun _ _ h => h)
  have hb3 := hA.keep hb (fun h => h)
  have hg3 := alloc_block_at ((w1.setCell ⟨p, 0, none⟩ (.slice (some ⟨w1.heap.size, 0, none⟩) m m)).setCell ⟨p, 1, none⟩ (.int .i64 0)) (.cells C 34) hsz.symm
  have hO3 : Only (· = p) w1 _ := hO.trans (hA.mono (fun _ _ h => h.elim))
  have hyl : ys.length = Q.L.length * 3 := hN.row.1
  have hvlt := own_lt hN.row
  have hFlt : ∀ k, F k → k < w1.heap.size := fun k hk => let ⟨c, hc⟩ := hN.ft k hk; lt_of_obj hc
  generalize ((w1.setCell ⟨p, 0, none⟩ (.slice (some ⟨w1.heap.size, 0, none⟩) m m)).setCell ⟨p, 1, none⟩ (.int .i64 0)).alloc (.cells C 34) = W at *
  have hrun : (Builtin.copy_ #[49, 49] 3 #[.slice (some ⟨w1.heap.size, 0, none⟩) m m, v]).run Try.prog W = .ok (goInt Q.L.length) (W.setRow w1.heap.size (C.toList.take 0 ++ ys ++ C.toList.drop (0 + ys.length)).toArray) := by
    have hs3 : (Try.prog.info? 34).map (·.size) = some 3 := by
      obtain ⟨i0, hi, hz0, hz1, hz2⟩ := info_parts info_item
      rw [hi]; simp [hz1]
    rcases Nat.eq_zero_or_pos Q.L.length with h0 | h0
    · obtain ⟨va, vc, ev⟩ := own_shape hN3.row
      have hy0 : ys = [] := List.eq_nil_of_length_eq_zero (by omega)
      rw [ev, h0, hy0]
      rw [run_copy_none3 W _ _ _ 34 _ _ _ _ _ _ Try.underlying49 hs3 (by simp)]
      congr 1
      simp only [List.take_zero, List.nil_append, List.length_nil, Nat.add_zero, List.drop_zero, Array.toArray_toList]
      exact (setRow_same hg3).symm
    · obtain ⟨g2, cap2, ev, _, _, hcell⟩ := row_cell hN3.row h0
      rw [ev]
      have hmin : Nat.min Q.L.length m = Q.L.length := Nat.min_eq_left (by omega)
      have h := run_copy_row3 (P := Try.prog) W 49 49 3 34 w1.heap.size 0 m m ⟨g2, 0, none⟩ Q.L.length cap2 C 34 ys Try.underlying49 hs3 hg3 (by rw [hmin]; exact hyl)
        (fun j u hu => by
          have hj : j < ys.length := (List.getElem?_eq_some_iff.1 hu).1
          rw [Addr.add_lit, Nat.zero_add, hcell j (by omega), hu]) (by omega) hN.one
      rw [hmin] at h
      exact h
  have hst := stored_setRow (cs := (C.toList.take 0 ++ ys ++ C.toList.drop (0 + ys.length)).toArray) hg3
  refine ⟨_, hrun, roleQ p (.slice (some ⟨w1.heap.size, 0, none⟩) m m) F, C.toList.take 0 ++ ys ++ C.toList.drop (0 + ys.length), ?_, ?_, ?_⟩
  · generalize W.setRow w1.heap.size (C.toList.take 0 ++ ys ++ C.toList.drop (0 + ys.length)).toArray = W' at *
    have hsW := hst.size
    have hsO := hO3.size
    have hpw : ¬ p = w1.heap.size := by omega
    have hrF : ∀ k, F k → roleQ p (.slice (some ⟨w1.heap.size, 0, none⟩) m m) F k = 3 := fun k hk => by
      have h1 := hFlt k hk
      have h2 := hN.ge k hk
      unfold roleQ
      rw [if_neg (by omega), if_neg (by simp [Value.ownBlock]; omega), if_pos hk]
    refine ⟨hst.only.keep hb3 hpw, ⟨by simp; omega, .inr ⟨w1.heap.size, m, _, rfl, Nat.zero_le _, hst.blk, Nat.le_refl _, by unfold maxLen; omega, by simp; omega, by rw [List.take_of_length_le (by simp; omega)]⟩⟩, ?_, .inl (by omega), by omega, hm, hQ1.few, hQ1.items, hQ1.sum, hQ1.bound, hQ1.data, by simp [roleQ], ?_, ?_⟩
    · intro i x hx
      have hi : i < Q.L.length := (List.getElem?_eq_some_iff.1 hx).1
      obtain ⟨y, hy⟩ := hN3.cs i x hx
      have hy2 := hy.keep hst.only (fun k hk e => by have := hFlt k hk; omega)
      have hmod : (0 + i) % m = i := by rw [Nat.zero_add]; exact Nat.mod_eq_of_lt (by omega)
      refine ⟨y, ?_, ?_, ?_, hy2.d, fun k hk => hrF k (hy2.f k hk)⟩
      · rw [hmod, List.take_zero, List.nil_append, List.getElem?_append_left (by omega)]; exact hy2.c0
      · rw [hmod, List.take_zero, List.nil_append, List.getElem?_append_left (by omega)]; exact hy2.c1
      · rw [hmod, List.take_zero, List.nil_append, List.getElem?_append_left (by omega)]; exact hy2.c2
    · intro k hk
      have hk' : w1.heap.size = k := by injection hk
      unfold roleQ
      rw [if_neg (by omega), if_pos hk]
    · intro k hk
      have hgl := lt_of_obj hst.blk
      unfold roleQ at hk
      split at hk
      · omega
      · split at hk
        · rename_i h2; have h2' : w1.heap.size = k := by injection h2
          omega
        · split at hk
          · have := hFlt k ‹_›; omega
          · exact absurd rfl hk
  · refine ⟨hst.only.os.trans (hO3.os.trans hB.os), hst.only.tape.trans (hO3.tape.trans hB.tape), hst.only.output.trans (hO3.output.trans hB.output), Nat.le_trans (Nat.le_trans hs1 hO3.size) hst.only.size, fun k hk hrk => ?_⟩
    have h3 := hO3.size
    rw [hst.only.block k (by omega) (by omega), hO3.block k (by omega) (fun e => hrk (by rw [e, hQ1.rp]; decide)), hB.block k hk]
  · intro k hk
    unfold roleQ at hk
    split at hk
    · left; rename_i h1; rw [h1, hQ1.rp]; decide
    · split at hk
      · right; rename_i h2; have h2' : w1.heap.size = k := by injection h2
        omega
      · split at hk
        · right; exact hN.ge k ‹_›
        · exact absurd rfl hk

/-- Behind grow. -/
def Grown5 (w : World) (p : Nat) (r : Nat → Nat) (Q : QS) (e : Ending) (w' : World) : Prop :=
  e = .returned (.tuple #[]) ∧ ∃ r' rv' n' xs', IsQ w' p r' Q rv' 0 n' xs' ∧ Q.L.length < n' ∧ Only (fun k => r k ≠ 0) w w' ∧ ∀ k, r' k ≠ 0 → r k ≠ 0 ∨ w.heap.size ≤ k

set_option maxRecDepth 100000 in
theorem grow_is {w : World} {p : Nat} {r : Nat → Nat} {Q : QS} {rv : Value} {f n : Nat} {xs : List Value} (hQ : IsQ w p r Q rv f n xs) (hfull : Q.L.length = n) (hlt : Q.L.length < Q.items) :
    Calls Try.prog 47 #[.pointer (some ⟨p, 0, none⟩)] w (Grown5 w p r Q) := by
  obtain ⟨ra, rc, erv⟩ := own_shape hQ.ring
  have hitems := hQ.items
  have hn : n < 65536 := by omega
  have hp := lt_of_obj hQ.blk
  have HQ := Lib.hid hQ
  have HF := Lib.hid hfull
  clear hQ hfull hlt
  go_enter Try.func47, Try.ntmps47
  go_wp2_with fail
  refine (all_items HQ.out).mono ?_
  rintro e w1 ⟨v, ys, F, rfl, hN, hB⟩
  have hp1 : p < w1.heap.size := Nat.lt_of_lt_of_le hp hB.size
  have hpn : ¬ p = w1.heap.size := by omega
  have hpn' : ¬ w1.heap.size = p := by omega
  have hQ1 := HQ.out.below hB
  have c0 := hQ1.c0
  have c1 := hQ1.c1
  have f0 := hQ1.fr 0
  have f1 := hQ1.fr 1
  rw [erv] at c0
  have HN := Lib.hid hN
  have HB := Lib.hid hB
  have HQ1 := Lib.hid hQ1
  have HRV := Lib.hid erv
  clear hN hB hQ1 erv
  obtain ⟨m, hm⟩ : ∃ m : Nat, m = max 8 (2 * n) := ⟨_, rfl⟩
  have hm2 : m ≤ 200000 := by omega
  have hmn : n < m := by omega
  obtain ⟨C, hC, mk⟩ := make_items m hm2
  have HC := Lib.hid hC
  clear hC
  obtain ⟨w5, hrun, r', xs', hF5, hO5, hr5⟩ := grow_end HQ1.out HN.out HB.out HQ.out.lt (by rw [HF.out]; exact hmn) hm2 HC.out
  have H5 := Lib.hid hF5
  have HO5 := Lib.hid hO5
  have HR5 := Lib.hid hr5
  have HM := Lib.hid hmn
  clear hF5 hO5 hr5 HC HN HB HQ1
  by_cases h8 : (8 : Int) < 2 * (n : Int)
  · have em : (m : Int) = 2 * (n : Int) := by omega
    rw [em] at mk
    clear hm em hmn
    go_wp2_with (refine wpList_copy_by _ rfl (.tmp 22) (.tmp 23) 49 49 rfl _ _ rfl rfl hrun ?_)
    go_end0
    exact ⟨rfl, r', _, m, xs', H5.out, by rw [HF.out]; exact HM.out, HO5.out, HR5.out⟩
  · have em : (m : Int) = 8 := by omega
    rw [em] at mk
    clear hm em hmn
    go_wp2_with (refine wpList_copy_by _ rfl (.tmp 22) (.tmp 23) 49 49 rfl _ _ rfl rfl hrun ?_)
    go_end0
    exact ⟨rfl, r', _, m, xs', H5.out, by rw [HF.out]; exact HM.out, HO5.out, HR5.out⟩
end Go.Proofs.Ythipfcmjpgbemaa

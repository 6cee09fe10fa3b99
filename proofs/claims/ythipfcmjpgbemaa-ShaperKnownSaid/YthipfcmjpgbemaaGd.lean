/- New and grow, walked. -/
import Derived.Test.YthipfcmjpgbemaaGc
import Derived.Deep.DeepCutAuto
import Derived.Deep.RegionHeld3
import Derived.Deep.RegionWith
import Derived.RegionTactic
namespace Go.Proofs.Ythipfcmjpgbemaa
open Go.RowKit

theorem run_copy_row3 {P : Program} (w : World) (dT sT ty elem : TypeId) (g o dLen dCap : Nat) (a : Addr) (sLen sCap : Nat) (cur : Array Value) (t : TypeId) (cs : List Value)
    (hu : P.underlying dT = some (.slice elem)) (hs : (P.info? elem).map (·.size) = some 3)
    (hg : w.heap[g]? = some (.cells cur t (0, 0))) (hn : cs.length = Nat.min sLen dLen * 3)
    (hsrc : ∀ j v, cs[j]? = some v → w.cell? (a.add j) = some v) (hfit : o + cs.length ≤ cur.size) (h1 : ∀ v ∈ cs, v.oneCell' = true) :
    (Builtin.copy_ #[dT, sT] ty #[.slice (some ⟨g, o, none⟩) dLen dCap, .slice (some a) sLen sCap]).run P w =
      .ok (goInt (Nat.min sLen dLen)) (w.setRow g (cur.toList.take o ++ cs ++ cur.toList.drop (o + cs.length)).toArray) := by
  have hl := run_loadCells_list (P := P) w a cs hsrc
  have hst := run_storeCells_at P g o t cs 0 cur w hg (by simpa using hfit) h1
  cases hq : P.info? elem with
  | none => simp [hq] at hs
  | some i =>
    have hi : i.size = 3 := by simpa [hq] using hs
    simp [Builtin.copy_, run_underlying hu, Builtin.lenOf, Builtin.firstCells, sizeOf, typeInfo, hq, hi, ← hn, hl, hst]

/-- The roles of a queue's blocks. -/
noncomputable def roleQ (p : Nat) (v : Value) (F : Nat → Prop) : Nat → Nat := by
  classical
  exact fun k => if k = p then 1 else if v.ownBlock = some k then 2 else if F k then 3 else 0

theorem new_bad (i s : Int) (h : i < 0 ∨ s < 0 ∨ 65536 < i) (w : World) : Calls Try.prog 26 #[.int .i64 i, .int .i64 s] w fun e w' => e = .returned (.tuple #[.pointer none, .int .i64 2]) ∧ w' = w := by
  by_cases h0 : i < 0
  · go_enter Try.func26, Try.ntmps26
    go_wp2_with fail
    go_ret2
    exact ⟨rfl, rfl⟩
  · by_cases h1 : s < 0
    · go_enter Try.func26, Try.ntmps26
      go_wp2_with fail
      go_ret2
      exact ⟨rfl, rfl⟩
    · have h2 : 65536 < i := by omega
      go_enter Try.func26, Try.ntmps26
      go_wp2_with fail
      go_ret2
      exact ⟨rfl, rfl⟩

/-- An empty queue. -/
def empty (i s : Nat) : QS := ⟨[], i, s, 0⟩

theorem new_is (i s : Nat) (hi : i ≤ 65536) (hs : s ≤ 9223372036854775807) (w : World) :
    Calls Try.prog 26 #[.int .i64 i, .int .i64 s] w fun e w' => ∃ p r, e = .returned (.tuple #[.pointer (some ⟨p, 0, none⟩), .int .i64 0]) ∧ IsQ w' p r (empty i s) (.slice none 0 0) 0 0 [] ∧ Below w.heap.size w w' ∧ ∀ k, r k ≠ 0 → w.heap.size ≤ k := by
  have h0 : ¬ (i : Int) < 0 := by omega
  have h1 : ¬ (s : Int) < 0 := by omega
  have h2 : ¬ 65536 < (i : Int) := by omega
  have HS := Lib.hid hs
  clear hs
  go_enter Try.func26, Try.ntmps26
  go_wp2_with fail
  go_ret2
  refine ⟨_, rfl, fun k => if k = w.heap.size then 1 else 0, ⟨alloc_block_new w _, World.ownsRow_nil _ _ _ _, fun i x h => by simp [empty] at h, .inr ⟨rfl, rfl⟩, by simp [empty], by omega, by simp [empty], hi, by simp [empty, sumQ], HS.out, by simp [empty], by simp, fun k hk => (by cases hk), ?_⟩, (Below.refl _ _).alloc (Nat.le_refl _) _, ?_⟩
  · intro k hk
    simp at hk
    simp
    omega
  · intro k hk
    simp at hk
    omega

theorem max8 (n : Nat) : ∃ m : Nat, m = max 8 (2 * n) := ⟨_, rfl⟩

theorem made_len (m : Nat) : (madeCells (Value.agg #[.int .u64 0, .int .i64 0, .slice none 0 0]).cells (m * 3)).size = m * 3 := by simp [madeCells]

theorem make_items (m : Nat) (hm : m ≤ 200000) : ∃ C : Array Value, C.size = m * 3 ∧
    ∀ w : World, (Instr.makeSlice 49 (.int .i64 m) (.int .i64 m)).run Try.prog w = .ok (.slice (some ⟨w.heap.size, 0, none⟩) m m) (w.alloc (.cells C 34)) := by
  obtain ⟨i0, hi, hz0, hz1, hz2⟩ := info_parts info_item
  refine ⟨_, made_len m, fun w => ?_⟩
  have h := run_makeSlice (P := Try.prog) w 49 34 i0 _ Try.underlying49 hi hz0 .i64 .i64 m m (by omega) (Int.le_refl _) (by rw [hz1]; simp; omega) (by rw [hz2]; omega) (by omega)
  rw [hz1] at h
  simpa using h

theorem run_copy_none3 {P : Program} (w : World) (dT sT ty elem : TypeId) (d a : Option Addr) (dLen dCap sLen sCap : Nat) (hu : P.underlying dT = some (.slice elem)) (hs : (P.info? elem).map (·.size) = some 3) (hn : Nat.min sLen dLen = 0) :
    (Builtin.copy_ #[dT, sT] ty #[.slice d dLen dCap, .slice a sLen sCap]).run P w = .ok (goInt 0) w := by
  cases hq : P.info? elem with
  | none => simp [hq] at hs
  | some i =>
    have hl : ∀ (x : Addr), (loadCells x 0).run P w = .ok #[] w := fun x => by simpa using run_loadCells_list (P := P) w x [] (by simp)
    cases d <;> cases a <;> simp [Builtin.copy_, run_underlying hu, Builtin.lenOf, Builtin.firstCells, sizeOf, typeInfo, hq, hn, storeCells, hl]

theorem NewI.one {base : Nat} {w : World} {F : Nat → Prop} {v : Value} {xs : List Value} {L : List It} (h : NewI base w F v xs L) : ∀ u ∈ xs, u.oneCell' = true := by
  intro u hu
  obtain ⟨j, hj⟩ := List.getElem?_of_mem hu
  have hl : xs.length = L.length * 3 := h.row.1
  have hjl : j < xs.length := (List.getElem?_eq_some_iff.1 hj).1
  obtain ⟨y, hy⟩ := h.cs (j / 3) _ (List.getElem?_eq_getElem (show j / 3 < L.length by omega))
  obtain ⟨ya, yc, ey⟩ := own_shape hy.d
  rcases (show j = j / 3 * 3 ∨ j = j / 3 * 3 + 1 ∨ j = j / 3 * 3 + 2 by omega) with e | e | e
  · rw [e, hy.c0] at hj; injection hj with hj; subst hj; rfl
  · rw [e, hy.c1] at hj; injection hj with hj; subst hj; rfl
  · rw [e, hy.c2] at hj; injection hj with hj; subst hj; rw [ey]; rfl

theorem set_block2 {w : World} {p : Nat} {a b c d e f g : Value} {T : TypeId} (h : w.heap[p]? = some (.cells #[a, b, c, d, e, f, g] T (0, 0))) (x y : Value) :
    ((w.setCell ⟨p, 0, none⟩ x).setCell ⟨p, 1, none⟩ y).heap[p]? = some (.cells #[x, y, c, d, e, f, g] T (0, 0)) ∧ Only (· = p) w ((w.setCell ⟨p, 0, none⟩ x).setCell ⟨p, 1, none⟩ y) := by
  refine ⟨?_, Only.setCell (p := ⟨p, 1, none⟩) (Only.setCell (p := ⟨p, 0, none⟩) (Only.refl (· = p) w) (fun _ => rfl) _) (fun _ => rfl) _⟩
  have h1 := setCell_block h 0 x
  exact setCell_block h1 1 y

theorem setRow_same {w : World} {g : Nat} {C : Array Value} {t : TypeId} (h : w.heap[g]? = some (.cells C t (0, 0))) : w.setRow g C = w := by
  have hh : (w.setRow g C).heap = w.heap := Array.ext_getElem? fun k => by
    by_cases e : k = g
    · subst e; rw [setRow_heap w k C C t (0, 0) h, h]
    · exact setRow_other w g k C e
  cases w
  simp [World.setRow] at hh ⊢
  exact hh

set_option maxRecDepth 100000 in
theorem grow_end {w w1 : World} {p : Nat} {r : Nat → Nat} {Q : QS} {rv : Value} {f n : Nat} {xs : List Value} {v : Value} {ys : List Value} {F : Nat → Prop} {m : Nat} {C : Array Value} (hQ1 : IsQ w1 p r Q rv f n xs) (hN : NewI w.heap.size w1 F v ys Q.L) (hB : Below w.heap.size w w1)
    (hr : ∀ k, r k ≠ 0 → k < w.heap.size) (hmn : Q.L.length < m) (hm : m ≤ 200000) (hC : C.size = m * 3) :
    ∃ w', (Builtin.copy_ #[49, 49] 3 #[.slice (some ⟨w1.heap.size, 0, none⟩) m m, v]).run Try.prog (((w1.setCell ⟨p, 0, none⟩ (.slice (some ⟨w1.heap.size, 0, none⟩) m m)).setCell ⟨p, 1, none⟩ (.int .i64 0)).alloc (.cells C 34)) = .ok (goInt Q.L.length) w' ∧
      ∃ r' xs', IsQ w' p r' Q (.slice (some ⟨w1.heap.size, 0, none⟩) m m) 0 m xs' ∧ Only (fun k => r k ≠ 0) w w' ∧ ∀ k, r' k ≠ 0 → r k ≠ 0 ∨ w.heap.size ≤ k := by
  classical
  have hp := hr p (by rw [hQ1.rp]; decide)
  have hs1 := hB.size
  obtain ⟨hb, hO⟩ := set_block2 hQ1.blk (.slice (some ⟨w1.heap.size, 0, none⟩) m m) (.int .i64 0)
  have hsz : ((w1.setCell ⟨p, 0, none⟩ (.slice (some ⟨w1.heap.size, 0, none⟩) m m)).setCell ⟨p, 1, none⟩ (.int .i64 0)).heap.size = w1.heap.size := by simp [World.setCell]
  have hvge := own_ge hN.row
  have hN2 := hN.keep hO (fun k hk e => by have := hN.ge k hk; omega) (fun k hk e => by have := hvge k hk; omega)
  have hA : Only (fun _ => False) ((w1.setCell ⟨p, 0, none⟩ (.slice (some ⟨w1.heap.size, 0, none⟩) m m)).setCell ⟨p, 1, none⟩ (.int .i64 0)) (((w1.setCell ⟨p, 0, none⟩ (.slice (some ⟨w1.heap.size, 0, none⟩) m m)).setCell ⟨p, 1, none⟩ (.int .i64 0)).alloc (.cells C 34)) := (Only.refl _ _).alloc _
  have hN3 := hN2.keep hA (fun _ _ h => h) (fun _ _ h => h)
  have hb3 := hA.keep hb (fun h => h)
  have hg3 := alloc_block_at ((w1.setCell ⟨p, 0, none⟩ (.slice (some ⟨w1.heap.size, 0, none⟩) m m)).setCell ⟨p, 1, none⟩ (.int .i64 0)) (.cells C 34) hsz.symm
  have hO3 : Only (· = p) w1 _ := hO.trans (hA.mono (fun _ _ h => h.elim))
  have hyl : ys.length = Q.L.length * 3 := hN.row.1
  have hvlt := own_lt hN.row
  have hFlt : ∀ k, F k → k < w1.heap.size := fun k hk => let ⟨c, hc⟩ := hN.ft k hk; lt_of_obj hc
  generalize ((w1.setCell ⟨p, 0, none⟩ (.slice (some ⟨w1.heap.size, 0, none⟩) m m)).setCell ⟨p, 1, none⟩ (.int .i64 0)).alloc (.cells C 34) = W at *
  have hrun : (Builtin.copy_ #[49, 49] 3 #[.slice (some ⟨w1.heap.size, 0, none⟩) m m, v]).run Try.prog W = .ok (goInt Q.L.length) (W.setRow w1.heap.size (C.toList.take 0 ++ ys ++ C.toList.drop (0 + ys.length)).toArray) := by
    have hs3 : (Try.prog.info? 34).map (·.size) = some 3 := by
      obtain ⟨i0, hi, hz0, hz1, hz2⟩ := info_parts info_item
      rw [hi]; simp [hz1]
    rcases Nat.eq_zero_or_pos Q.L.length with h0 | h0
    · obtain ⟨va, vc, ev⟩ := own_shape hN3.row
      have hy0 : ys = [] := List.eq_nil_of_length_eq_zero (by omega)
      rw [ev, h0, hy0]
      rw [run_copy_none3 W _ _ _ 34 _ _ _ _ _ _ Try.underlying49 hs3 (by simp)]
      congr 1
      simp only [List.take_zero, List.nil_append, List.length_nil, Nat.add_zero, List.drop_zero, Array.toArray_toList]
      exact (setRow_same hg3).symm
    · obtain ⟨g2, cap2, ev, _, _, hcell⟩ := row_cell hN3.row h0
      rw [ev]
      have hmin : Nat.min Q.L.length m = Q.L.length := Nat.min_eq_left (by omega)
      have h := run_copy_row3 (P := Try.prog) W 49 49 3 34 w1.heap.size 0 m m ⟨g2, 0, none⟩ Q.L.length cap2 C 34 ys Try.underlying49 hs3 hg3 (by rw [hmin]; exact hyl)
        (fun j u hu => by
          have hj : j < ys.length := (List.getElem?_eq_some_iff.1 hu).1
          rw [Addr.add_lit, Nat.zero_add, hcell j (by omega), hu]) (by omega) hN.one
      rw [hmin] at h
      exact h
  have hst := stored_setRow (cs := (C.toList.take 0 ++ ys ++ C.toList.drop (0 + ys.length)).toArray) hg3
  refine ⟨_, hrun, roleQ p (.slice (some ⟨w1.heap.size, 0, none⟩) m m) F, C.toList.take 0 ++ ys ++ C.toList.drop (0 + ys.length), ?_, ?_, ?_⟩
  · generalize W.setRow w1.heap.size (C.toList.take 0 ++ ys ++ C.toList.drop (0 + ys.length)).toArray = W' at *
    have hsW := hst.size
    have hsO := hO3.size
    have hpw : ¬ p = w1.heap.size := by omega
    have hrF : ∀ k, F k → roleQ p (.slice (some ⟨w1.heap.size, 0, none⟩) m m) F k = 3 := fun k hk => by
      have h1 := hFlt k hk
      have h2 := hN.ge k hk
      unfold roleQ
      rw [if_neg (by omega), if_neg (by simp [Value.ownBlock]; omega), if_pos hk]
    refine ⟨hst.only.keep hb3 hpw, ⟨by simp; omega, .inr ⟨w1.heap.size, m, _, rfl, Nat.zero_le _, hst.blk, Nat.le_refl _, by unfold maxLen; omega, by simp; omega, by rw [List.take_of_length_le (by simp; omega)]⟩⟩, ?_, .inl (by omega), by omega, hm, hQ1.few, hQ1.items, hQ1.sum, hQ1.bound, hQ1.data, by simp [roleQ], ?_, ?_⟩
    · intro i x hx
      have hi : i < Q.L.length := (List.getElem?_eq_some_iff.1 hx).1
      obtain ⟨y, hy⟩ := hN3.cs i x hx
      have hy2 := hy.keep hst.only (fun k hk e => by have := hFlt k hk; omega)
      have hmod : (0 + i) % m = i := by rw [Nat.zero_add]; exact Nat.mod_eq_of_lt (by omega)
      refine ⟨y, ?_, ?_, ?_, hy2.d, fun k hk => hrF k (hy2.f k hk)⟩
      · rw [hmod, List.take_zero, List.nil_append, List.getElem?_append_left (by omega)]; exact hy2.c0
      · rw [hmod, List.take_zero, List.nil_append, List.getElem?_append_left (by omega)]; exact hy2.c1
      · rw [hmod, List.take_zero, List.nil_append, List.getElem?_append_left (by omega)]; exact hy2.c2
    · intro k hk
      have hk' : w1.heap.size = k := by injection hk
      unfold roleQ
      rw [if_neg (by omega), if_pos hk]
    · intro k hk
      have hgl := lt_of_obj hst.blk
      unfold roleQ at hk
      split at hk
      · omega
      · split at hk
        · rename_i h2; have h2' : w1.heap.size = k := by injection h2
          omega
        · split at hk
          · have := hFlt k ‹_›; omega
          · exact absurd rfl hk
  · refine ⟨hst.only.os.trans (hO3.os.trans hB.os), hst.only.tape.trans (hO3.tape.trans hB.tape), hst.only.output.trans (hO3.output.trans hB.output), Nat.le_trans (Nat.le_trans hs1 hO3.size) hst.only.size, fun k hk hrk => ?_⟩
    have h3 := hO3.size
    rw [hst.only.block k (by omega) (by omega), hO3.block k (by omega) (fun e => hrk (by rw [e, hQ1.rp]; decide)), hB.block k hk]
  · intro k hk
    unfold roleQ at hk
    split at hk
    · left; rename_i h1; rw [h1, hQ1.rp]; decide
    · split at hk
      · right; rename_i h2; have h2' : w1.heap.size = k := by injection h2
        omega
      · split at hk
        · right; exact hN.ge k ‹_›
        · exact absurd rfl hk

/-- Behind grow. -/
def Grown5 (w : World) (p : Nat) (r : Nat → Nat) (Q : QS) (e : Ending) (w' : World) : Prop :=
  e = .returned (.tuple #[]) ∧ ∃ r' rv' n' xs', IsQ w' p r' Q rv' 0 n' xs' ∧ Q.L.length < n' ∧ Only (fun k => r k ≠ 0) w w' ∧ ∀ k, r' k ≠ 0 → r k ≠ 0 ∨ w.heap.size ≤ k

set_option maxRecDepth 100000 in
theorem grow_is {w : World} {p : Nat} {r : Nat → Nat} {Q : QS} {rv : Value} {f n : Nat} {xs : List Value} (hQ : IsQ w p r Q rv f n xs) (hfull : Q.L.length = n) (hlt : Q.L.length < Q.items) :
    Calls Try.prog 47 #[.pointer (some ⟨p, 0, none⟩)] w (Grown5 w p r Q) := by
  obtain ⟨ra, rc, erv⟩ := own_shape hQ.ring
  have hitems := hQ.items
  have hn : n < 65536 := by omega
  have hp := lt_of_obj hQ.blk
  have HQ := Lib.hid hQ
  have HF := Lib.hid hfull
  clear hQ hfull hlt
  go_enter Try.func47, Try.ntmps47
  go_wp2_with fail
  refine (all_items HQ.out).mono ?_
  rintro e w1 ⟨v, ys, F, rfl, hN, hB⟩
  have hp1 : p < w1.heap.size := Nat.lt_of_lt_of_le hp hB.size
  have hpn : ¬ p = w1.heap.size := by omega
  have hpn' : ¬ w1.heap.size = p := by omega
  have hQ1 := HQ.out.below hB
  have c0 := hQ1.c0
  have c1 := hQ1.c1
  have f0 := hQ1.fr 0
  have f1 := hQ1.fr 1
  rw [erv] at c0
  have HN := Lib.hid hN
  have HB := Lib.hid hB
  have HQ1 := Lib.hid hQ1
  have HRV := Lib.hid erv
  clear hN hB hQ1 erv
  obtain ⟨m, hm⟩ : ∃ m : Nat, m = max 8 (2 * n) := ⟨_, rfl⟩
  have hm2 : m ≤ 200000 := by omega
  have hmn : n < m := by omega
  obtain ⟨C, hC, mk⟩ := make_items m hm2
  have HC := Lib.hid hC
  clear hC
  obtain ⟨w5, hrun, r', xs', hF5, hO5, hr5⟩ := grow_end HQ1.out HN.out HB.out HQ.out.lt (by rw [HF.out]; exact hmn) hm2 HC.out
  have H5 := Lib.hid hF5
  have HO5 := Lib.hid hO5
  have HR5 := Lib.hid hr5
  have HM := Lib.hid hmn
  clear hF5 hO5 hr5 HC HN HB HQ1
  by_cases h8 : (8 : Int) < 2 * (n : Int)
  · have em : (m : Int) = 2 * (n : Int) := by omega
    rw [em] at mk
    clear hm em hmn
    go_wp2_with (refine wpList_copy_by _ rfl (.tmp 22) (.tmp 23) 49 49 rfl _ _ rfl rfl hrun ?_)
    go_end0
    exact ⟨rfl, r', _, m, xs', H5.out, by rw [HF.out]; exact HM.out, HO5.out, HR5.out⟩
  · have em : (m : Int) = 8 := by omega
    rw [em] at mk
    clear hm em hmn
    go_wp2_with (refine wpList_copy_by _ rfl (.tmp 22) (.tmp 23) 49 49 rfl _ _ rfl rfl hrun ?_)
    go_end0
    exact ⟨rfl, r', _, m, xs', H5.out, by rw [HF.out]; exact HM.out, HO5.out, HR5.out⟩
end Go.Proofs.Ythipfcmjpgbemaa

/- Push, walked. -/
namespace Go.Proofs.Ythipfcmjpgbemaa
open Go.RowKit

theorem Holds8.lt {w : World} {v : Value} {zs : List Nat} (h : Holds8 w v zs) (h0 : 0 < zs.length) : ∀ k, v.ownBlock = some k → k < w.heap.size := by
  intro k hk
  obtain ⟨ao, cap, rfl, _, _, h3, _⟩ := h
  cases ao with
  | none => cases hk
  | some x => injection hk with hk; subst hk; exact h3 h0 x rfl
theorem holds_only {w w' : World} {v : Value} {zs : List Nat} {S : Nat → Prop} (h : Holds8 w v zs) (hO : Only S w w') (hS : 0 < zs.length → ∀ k, v.ownBlock = some k → ¬ S k) : Holds8 w' v zs := by
  by_cases h0 : 0 < zs.length
  · exact h.keep hO.size (fun k hk => hO.block k (h.lt h0 k hk) (hS h0 k hk))
  · obtain ⟨ao, cap, e, h1, h2, _, _⟩ := h
    exact ⟨ao, cap, e, h1, h2, fun h => absurd h h0, fun h => absurd h h0⟩

theorem push_nil (no sz : Int) (y : Value) (w : World) :
    Calls Try.prog 29 #[.pointer none, .agg #[.int .u64 no, .int .i64 sz, y]] w fun e w' => e = .returned (.int .i64 1) ∧ Below w.heap.size w w' := by
  go_enter Try.func29, Try.ntmps29
  go_wp2_with fail
  go_ret
  exact ⟨rfl, (Below.refl _ _).alloc (Nat.le_refl _) _⟩

theorem push_neg (p : Nat) (no sz : Int) (ya : Option Addr) (yl yc : Nat) (h : sz < 0) (w : World) :
    Calls Try.prog 29 #[.pointer (some ⟨p, 0, none⟩), .agg #[.int .u64 no, .int .i64 sz, .slice ya yl yc]] w fun e w' => e = .returned (.int .i64 2) ∧ Below w.heap.size w w' := by
  go_enter Try.func29, Try.ntmps29
  go_wp2_with fail
  go_ret
  exact ⟨rfl, (Below.refl _ _).alloc (Nat.le_refl _) _⟩

theorem IsQ.drop {w w' : World} {p : Nat} {r : Nat → Nat} {Q : QS} {rv : Value} {f n : Nat} {xs : List Value} (h : IsQ w p r Q rv f n xs) (d : Nat) (hO : Only (· = p) w w')
    (hb : w'.heap[p]? = some (.cells #[rv, .int .i64 f, .int .i64 Q.L.length, .int .i64 (sumQ Q.L), .int .i64 Q.items, .int .i64 Q.bound, .int .u64 d] 120 (0, 0))) : IsQ w' p r { Q with drops := d } rv f n xs := by
  have hS : ∀ k, r k ≠ 1 → ¬ k = p := fun k hk e => hk (by rw [e, h.rp])
  exact ⟨hb, own_only h.ring hO (fun k hk => hS k (by rw [h.rr k hk]; decide)), h.rc.keep hO (fun k hk => hS k (by rw [hk]; decide)), h.from_, h.room, h.cap, h.few, h.items, h.sum, h.bound, h.data, h.rp, h.rr, fun k hk => Nat.lt_of_lt_of_le (h.lt k hk) hO.size⟩

set_option maxRecDepth 100000 in
theorem push_full (no : Int) (sz : Int) (ya : Option Addr) (yl yc : Nat) (h0 : 0 ≤ sz) {w : World} {p : Nat} {r : Nat → Nat} {Q : QS} {rv : Value} {f n : Nat} {xs : List Value} (hQ : IsQ w p r Q rv f n xs) (hr : roomB Q sz = false) (hd : Q.drops ≤ 1000000) :
    Calls Try.prog 29 #[.pointer (some ⟨p, 0, none⟩), .agg #[.int .u64 no, .int .i64 sz, .slice ya yl yc]] w fun e w' => e = .returned (.int .i64 110) ∧ IsQ w' p r { Q with drops := Q.drops + 1 } rv f n xs ∧ Only (fun k => r k ≠ 0) w w' := by
  have hp := lt_of_obj hQ.blk
  have HQ := Lib.hid hQ
  have HR := Lib.hid hr
  clear hQ hr
  have hne : ¬ p = w.heap.size := by omega
  have hne' : ¬ w.heap.size = p := by omega
  go_enter Try.func29, Try.ntmps29
  go_wp2_with fail
  have hA : Below w.heap.size w (w.alloc (.cells #[.int .u64 no, .int .i64 sz, .slice ya yl yc] 34)) := (Below.refl _ _).alloc (Nat.le_refl _) _
  refine (room_is sz (HQ.out.below hA)).mono ?_
  rintro e w1 ⟨rfl, nd, rfl⟩
  rw [HR.out]
  have hQ1 := (HQ.out.below hA).below (below_drewN (Below.refl _ _) nd)
  have hB1 := hA.trans ((below_drewN (Below.refl _ _) nd).mono hA.size)
  generalize (w.alloc (.cells #[.int .u64 no, .int .i64 sz, .slice ya yl yc] 34)).drewN nd = w1 at *
  have c6 := hQ1.c6
  have f6 := hQ1.fr 6
  have HQ1 := Lib.hid hQ1
  have HB1 := Lib.hid hB1
  clear hQ1 hB1 hA hne hne'
  have i2 : (Q.drops : Int) < 18446744073709551615 := by omega
  go_wp2_with fail
  go_ret
  have hb := setCell_block HQ1.out.blk 6 (.int .u64 ((Q.drops + 1 : Nat) : Int))
  have hO : Only (· = p) w1 (w1.setCell ⟨p, 6, none⟩ (.int .u64 ((Q.drops + 1 : Nat) : Int))) := Only.setCell (p := ⟨p, 6, none⟩) (Only.refl (· = p) w1) (fun _ => rfl) _
  exact ⟨rfl, HQ1.out.drop (Q.drops + 1) hO hb, (Below.only HB1.out _).trans (hO.mono (fun k _ e => by rw [e, HQ.out.rp]; decide))⟩
end Go.Proofs.Ythipfcmjpgbemaa

/- Push where there is room, walked. -/
namespace Go.Proofs.Ythipfcmjpgbemaa
open Go.RowKit

theorem sumQ_snoc (L : List It) (x : It) : sumQ (L ++ [x]) = sumQ L + x.size := by simp [sumQ]

/-- A queue behind a push. -/
def pushed (Q : QS) (x : It) : QS := { Q with L := Q.L ++ [x] }

/-- Ahead of the stores: there is a place for one more; the item lies in block g. -/
def PRoom (w : World) (p : Nat) (r : Nat → Nat) (Q : QS) (g : Nat) (no sz : Nat) (y : Value) (wc : World) : Prop :=
  ∃ r' rv' f' n' xs', IsQ wc p r' Q rv' f' n' xs' ∧ Q.L.length < n' ∧ Only (fun k => r k ≠ 0) w wc ∧ (∀ k, r' k ≠ 0 → r k ≠ 0 ∨ w.heap.size ≤ k) ∧ wc.heap[g]? = some (.cells #[.int .u64 no, .int .i64 sz, y] 34 (0, 0)) ∧ r' g = 0

/-- What is stored in a row's three cells. -/
def set3 (xs : List Value) (o : Nat) (a b c : Value) : List Value := ((xs.set o a).set (o + 1) b).set (o + 2) c
theorem set3_len (xs : List Value) (o : Nat) (a b c : Value) : (set3 xs o a b c).length = xs.length := by simp [set3]
theorem set3_other {xs : List Value} {o j : Nat} {a b c : Value} (h : j < o ∨ o + 2 < j) : (set3 xs o a b c)[j]? = xs[j]? := by
  unfold set3
  rw [List.getElem?_set_ne (by omega), List.getElem?_set_ne (by omega), List.getElem?_set_ne (by omega)]
theorem set3_0 {xs : List Value} {o : Nat} {a b c : Value} (h : o + 2 < xs.length) : (set3 xs o a b c)[o]? = some a := by
  unfold set3
  rw [List.getElem?_set_ne (by omega), List.getElem?_set_ne (by omega), List.getElem?_set_self (by omega)]
theorem set3_1 {xs : List Value} {o : Nat} {a b c : Value} (h : o + 2 < xs.length) : (set3 xs o a b c)[o + 1]? = some b := by
  unfold set3
  rw [List.getElem?_set_ne (by omega), List.getElem?_set_self (by simp; omega)]
theorem set3_2 {xs : List Value} {o : Nat} {a b c : Value} (h : o + 2 < xs.length) : (set3 xs o a b c)[o + 2]? = some c := by
  unfold set3
  rw [List.getElem?_set_self (by simp; omega)]

theorem set3_row {w : World} {g : Nat} {cap n o : Nat} {xs : List Value} (h : w.ownsRow 0 34 3 (.slice (some ⟨g, 0, none⟩) n cap) n xs) (ho : o + 2 < n * 3) (a b c : Value) :
    (((w.setCell ⟨g, o, none⟩ a).setCell ⟨g, o + 1, none⟩ b).setCell ⟨g, o + 2, none⟩ c).ownsRow 0 34 3 (.slice (some ⟨g, 0, none⟩) n cap) n (set3 xs o a b c) ∧ Only (· = g) w (((w.setCell ⟨g, o, none⟩ a).setCell ⟨g, o + 1, none⟩ b).setCell ⟨g, o + 2, none⟩ c) := by
  have hO : Only (· = g) w (((w.setCell ⟨g, o, none⟩ a).setCell ⟨g, o + 1, none⟩ b).setCell ⟨g, o + 2, none⟩ c) :=
    Only.setCell (p := ⟨g, o + 2, none⟩) (Only.setCell (p := ⟨g, o + 1, none⟩) (Only.setCell (p := ⟨g, o, none⟩) (Only.refl (· = g) w) (fun _ => rfl) _) (fun _ => rfl) _) (fun _ => rfl) _
  refine ⟨⟨by rw [set3_len]; exact h.1, ?_⟩, hO⟩
  rcases h.2 with ⟨_, h0⟩ | ⟨g2, cap2, cur, hv, hg, hh, hnc, hcm, hcs, hx⟩
  · omega
  · injection hv with e1 _ e3
    injection e1 with e1
    injection e1 with e1
    subst e1 e3
    have hk := setCell_block (setCell_block (setCell_block hh o a) (o + 1) b) (o + 2) c
    refine .inr ⟨g, cap, _, rfl, hg, hk, hnc, hcm, by simp [hcs], ?_⟩
    rw [Array.toList_setIfInBounds, Array.toList_setIfInBounds, Array.toList_setIfInBounds, List.take_set, List.take_set, List.take_set, hx]
    rfl

theorem push_end {w wc w2 w4 : World} {p : Nat} {r r' : Nat → Nat} {Q : QS} {g2 cap f' n' : Nat} {xs' : List Value} (x : It) {v : Value} (hQ : IsQ wc p r' Q (.slice (some ⟨g2, 0, none⟩) n' cap) f' n' xs') (hlt : Q.L.length < n') (hOw : Only (fun k => r k ≠ 0) w wc)
    (hr : ∀ k, r' k ≠ 0 → r k ≠ 0 ∨ w.heap.size ≤ k) (hrp : r p = 1) (hwl : ∀ k, r k ≠ 0 → k < w.heap.size) (hO2 : Only (· = p) wc w2)
    (hb2 : w2.heap[p]? = some (.cells #[.slice (some ⟨g2, 0, none⟩) n' cap, .int .i64 f', .int .i64 (Q.L.length + 1 : Nat), .int .i64 (sumQ Q.L + x.size : Nat), .int .i64 Q.items, .int .i64 Q.bound, .int .u64 Q.drops] 120 (0, 0)))
    (hB : Below w2.heap.size w2 w4) (hv : Own8 w4 w2.heap.size v x.data) (hroom : roomB Q x.size = true) (hd : x.data.length ≤ 1000000) :
    ∃ r'' xs'', IsQ (((w4.setCell ⟨g2, (f' + Q.L.length) % n' * 3, none⟩ (.int .u64 x.no)).setCell ⟨g2, (f' + Q.L.length) % n' * 3 + 1, none⟩ (.int .i64 x.size)).setCell ⟨g2, (f' + Q.L.length) % n' * 3 + 2, none⟩ v) p r'' (pushed Q x) (.slice (some ⟨g2, 0, none⟩) n' cap) f' n' xs'' ∧
      Only (fun k => r k ≠ 0) w (((w4.setCell ⟨g2, (f' + Q.L.length) % n' * 3, none⟩ (.int .u64 x.no)).setCell ⟨g2, (f' + Q.L.length) % n' * 3 + 1, none⟩ (.int .i64 x.size)).setCell ⟨g2, (f' + Q.L.length) % n' * 3 + 2, none⟩ v) ∧ ∀ k, r'' k ≠ 0 → r k ≠ 0 ∨ w.heap.size ≤ k := by
  classical
  have hS : ∀ k, r' k ≠ 1 → ¬ k = p := fun k hk e => hk (by rw [e, hQ.rp])
  have hsc := hO2.size
  have hs2 := hB.size
  have hrg : r' g2 = 2 := hQ.rr g2 rfl
  have hO4 : Only (· = p) wc w4 := hO2.trans (Below.only hB _)
  have hmod := Nat.mod_lt (f' + Q.L.length) (show 0 < n' by omega)
  have hrow4 := own_only hQ.ring hO4 (fun k hk => hS k (by rw [hQ.rr k hk]; decide))
  have hb4 := (hB.block p (lt_of_obj hb2)).trans hb2
  obtain ⟨hrow5, hO5⟩ := set3_row hrow4 (o := (f' + Q.L.length) % n' * 3) (by omega) (.int .u64 x.no) (.int .i64 x.size) v
  have hxl : xs'.length = n' * 3 := hQ.ring.1
  have hvge := own_ge hv
  have hvlt := own_lt hv
  have hvf : ∀ k, v.ownBlock = some k → r' k = 0 := fun k hk => by
    rcases Nat.eq_zero_or_pos (r' k) with e | e
    · exact e
    · have := hQ.lt k (by omega); have := hvge k hk; omega
  have hgp : g2 ≠ p := fun e => by rw [e, hQ.rp] at hrg; exact absurd hrg (by decide)
  have hrm : roomB Q x.size = true := hroom
  simp only [roomB, decide_eq_true_eq] at hrm
  refine ⟨fun k => if v.ownBlock = some k then 3 else r' k, _, ⟨?_, hrow5, ?_, hQ.from_, ?_, hQ.cap, ?_, hQ.items, ?_, hQ.bound, ?_, ?_, ?_, ?_⟩, ?_, ?_⟩
  · have h5 := hO5.keep hb4 (fun e => hgp e.symm)
    simpa [pushed, sumQ_snoc] using h5
  · intro i z hz
    have hz' : (Q.L ++ [x])[i]? = some z := hz
    by_cases hi : i < Q.L.length
    · rw [List.getElem?_append_left hi] at hz'
      obtain ⟨y, hy⟩ := hQ.rc i z hz'
      have hy4 := (hy.keep hO4 (fun k hk => hS k (by rw [hk]; decide))).keep hO5 (fun k hk e => by subst e; rw [hk] at hrg; exact absurd hrg (by decide))
      have hne : (f' + i) % n' ≠ (f' + Q.L.length) % n' := by
        intro e
        have e2 : (f' + Q.L.length) % n' = (f' + i) % n' := e.symm
        have h1 := Nat.sub_mod_eq_zero_of_mod_eq e2
        rw [show f' + Q.L.length - (f' + i) = Q.L.length - i by omega] at h1
        have h2 : (Q.L.length - i) % n' = Q.L.length - i := Nat.mod_eq_of_lt (by omega)
        omega
      have hoff : (f' + i) % n' * 3 + 2 < (f' + Q.L.length) % n' * 3 ∨ (f' + Q.L.length) % n' * 3 + 2 < (f' + i) % n' * 3 := by
        rcases Nat.lt_or_gt_of_ne hne with h | h <;> omega
      refine ⟨y, ?_, ?_, ?_, hy4.d, fun k hk => ?_⟩
      · rw [set3_other (by omega)]; exact hy4.c0
      · rw [set3_other (by omega)]; exact hy4.c1
      · rw [set3_other (by omega)]; exact hy4.c2
      · show (if v.ownBlock = some k then 3 else r' k) = 3
        split
        · rfl
        · exact hy4.f k hk
    · have hin : i = Q.L.length := by
        have := (List.getElem?_eq_some_iff.1 hz').1
        simp at this
        omega
      subst hin
      rw [List.getElem?_append_right (Nat.le_refl _), Nat.sub_self] at hz'
      simp at hz'
      subst hz'
      have hv5 := own_lower (own_only hv hO5 (fun k hk e => by subst e; rw [hvf k hk] at hrg; exact absurd hrg (by decide))) (Nat.zero_le _)
      exact ⟨v, set3_0 (by omega), set3_1 (by omega), set3_2 (by omega), hv5, fun k hk => by show (if v.ownBlock = some k then 3 else r' k) = 3; rw [if_pos hk]⟩
  · simp [pushed]; omega
  · simp [pushed]; omega
  · simp [pushed, sumQ_snoc]; omega
  · intro z hz
    rcases List.mem_append.1 hz with h | h
    · exact hQ.data z h
    · simp at h; subst h; exact hd
  · show (if v.ownBlock = some p then 3 else r' p) = 1
    rw [if_neg (fun e => by have := hvf p e; rw [hQ.rp] at this; exact absurd this (by decide))]
    exact hQ.rp
  · intro k hk
    show (if v.ownBlock = some k then 3 else r' k) = 2
    have hk2 := hQ.rr k hk
    rw [if_neg (fun e => by have := hvf k e; rw [hk2] at this; exact absurd this (by decide))]
    exact hk2
  · intro k hk
    have h45 := hO5.size
    have hk' : (if v.ownBlock = some k then 3 else r' k) ≠ 0 := hk
    split at hk'
    · have := hvlt k ‹_›; omega
    · have := hQ.lt k hk'; omega
  · have hgr := hr g2 (by rw [hrg]; decide)
    refine ⟨hO5.os.trans (hO4.os.trans hOw.os), hO5.tape.trans (hO4.tape.trans hOw.tape), hO5.output.trans (hO4.output.trans hOw.output), Nat.le_trans (Nat.le_trans hOw.size hO4.size) hO5.size, fun k hk hrk => ?_⟩
    have hcs := hOw.size
    have h4s := hO4.size
    rw [hO5.block k (by omega) (fun e => by subst e; rcases hgr with h | h; exact hrk h; omega), hO4.block k (by omega) (fun e => hrk (by rw [e, hrp]; decide)), hOw.block k hk hrk]
  · intro k hk
    have hk' : (if v.ownBlock = some k then 3 else r' k) ≠ 0 := hk
    split at hk'
    · have := hvge k ‹_›; have := hOw.size; right; omega
    · exact hr k hk'
end Go.Proofs.Ythipfcmjpgbemaa

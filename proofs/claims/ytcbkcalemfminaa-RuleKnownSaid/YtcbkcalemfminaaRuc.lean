/- Rows of rules as cells; cloned: walked. -/
import Derived.Test.YtcbkcalemfminaaRub
namespace Go.Proofs.Ytcbkcalemfminaa
open Go.RowKit
attribute [local go_sem ↓] load_ad load_pf load_ru load_ky load_bs build_pf build_ru

/-- Rules as cells. -/
def rsCells (l : List Ru) : List Value := l.flatMap Ru.cs
theorem rsCells_len {l : List Ru} (h : ∀ r ∈ l, r.Ok) : (rsCells l).length = l.length * 44 := by
  induction l with
  | nil => rfl
  | cons x L ih =>
    have h1 := ih (fun r hr => h r (List.mem_cons_of_mem _ hr))
    have h2 := (h x (List.mem_cons_self ..)).len
    simp only [rsCells, List.flatMap_cons, List.length_append, List.length_cons] at h1 ⊢
    omega
theorem rsCells_one {l : List Ru} : ∀ v ∈ rsCells l, v.oneCell' = true := by
  intro v hv
  obtain ⟨r, _, hr⟩ := List.mem_flatMap.1 hv
  exact r.one v hr
theorem range_app {w : World} {b o : Nat} {xs ys : List Value} (h1 : w.rangeAt b o xs) (h2 : w.rangeAt b (o + xs.length) ys) : w.rangeAt b o (xs ++ ys) := by
  intro j v hj
  by_cases h : j < xs.length
  · rw [List.getElem?_append_left h] at hj
    exact h1 j v hj
  · rw [List.getElem?_append_right (by omega)] at hj
    have := h2 _ v hj
    rw [show o + xs.length + (j - xs.length) = o + j by omega] at this
    exact this
theorem rs_range {w : World} {b : Nat} : ∀ {l : List Ru} {o : Nat}, (∀ i r, l[i]? = some r → r.Ok ∧ w.rangeAt b (o + i * 44) r.cs) → w.rangeAt b o (rsCells l)
  | [], o, _ => fun j v hj => by simp [rsCells] at hj
  | x :: L, o, h => by
    obtain ⟨h1, h2⟩ := h 0 x rfl
    have h3 := rs_range (l := L) (o := o + 44) (fun i r hi => ⟨(h (i + 1) r (by simpa using hi)).1, by
      have := (h (i + 1) r (by simpa using hi)).2
      rw [show o + 44 + i * 44 = o + (i + 1) * 44 by omega]
      exact this⟩)
    refine range_app (by simpa using h2) (by rw [h1.len]; exact h3)
theorem rs_part {w : World} {b o : Nat} {l : List Ru} (hok : ∀ r ∈ l, r.Ok) (h : w.rangeAt b o (rsCells l)) : ∀ i r, l[i]? = some r → r.Ok ∧ w.rangeAt b (o + i * 44) r.cs := by
  intro i r hi
  have hil := (List.getElem?_eq_some_iff.1 hi).1
  have hs : l = l.take i ++ r :: l.drop (i + 1) := by
    have : l.drop i = r :: l.drop (i + 1) := by
      rw [List.drop_eq_getElem_cons hil]
      congr 1
      exact (List.getElem?_eq_some_iff.1 hi).2
    rw [← this, List.take_append_drop]
  refine ⟨hok r (List.mem_of_getElem? hi), ?_⟩
  refine range_part (xs := rsCells (l.take i)) (zs := rsCells (l.drop (i + 1))) (n := i * 44) ?_ ?_
  · rw [hs] at h
    simpa [rsCells] using h
  · rw [rsCells_len (fun x hx => hok x (List.mem_of_mem_take hx)), List.length_take]
    omega

/-- A row of rules of a call's own. -/
abbrev OwnRules (w : World) (B : Nat) (v : Value) (l : List Ru) : Prop := w.ownsRow B 43 44 v l.length (rsCells l)
theorem OwnRules.rules {w : World} {B : Nat} {v : Value} {l : List Ru} (h : OwnRules w B v l) (hok : ∀ r ∈ l, r.Ok) : Rules w v l := by
  rcases h.2 with ⟨hv, h0⟩ | ⟨g, cap, cur, hv, hg, hh, hnc, hcm, hcs, hx⟩
  · exact ⟨none, 0, by rw [hv, h0], fun _ => h0, fun h => by omega⟩
  · refine ⟨_, cap, hv, (fun e => absurd e (by simp)), fun h0 => ⟨g, 0, rfl, lt_of_obj hh, ?_⟩⟩
    refine rs_part hok ?_
    intro j v hj
    have hjl := (List.getElem?_eq_some_iff.1 hj).1
    rw [rsCells_len hok] at hjl
    rw [Nat.zero_add, cell_of_block hh, ← hj, ← hx, List.getElem?_take_of_lt hjl]
    simp

theorem rows_zero (w : World) : (rowRow 22 0 #[]).run Try.prog w = .ok (.slice (some ⟨w.heap.size, 0, none⟩) 0 0) (w.alloc (.cells #[] 43)) := by
  unfold rowRow
  simp [go_sem, Instr.buildSlice, newRow]

set_option maxRecDepth 100000 in
theorem rclone_is {w : World} {v : Value} {l : List Ru} (h : Rules w v l) (hlen : l.length ≤ 1000000) :
    Calls Try.prog 23 #[v] w fun e w' => ∃ v', e = .returned v' ∧ OwnRules w' w.heap.size v' l ∧ Below w.heap.size w w' := by
  obtain ⟨i0, hi, hz0, hz1, hz2⟩ := info_parts info_ru
  have hok := h.ok
  obtain ⟨ao, cap, rfl, hnone, hc⟩ := h
  have q : ∀ (w : World) (a : Option Addr) (n c n' c' : Nat), (binOp .eql 22 (.slice a n c) (.slice none n' c')).run Try.prog w = .ok (.bool a.isNone) w := fun w a n c n' c' => Lib.run_eql_slice_nil w _ _ a n c n' c' Try.underlying22
  cases ao with
  | none =>
    have hz : l = [] := List.eq_nil_of_length_eq_zero (hnone rfl)
    subst hz
    go_enter Try.func23, Try.ntmps23
    go_wp2_with fail
    exact bodyPost_ret (v := .slice none 0 0) (by simp [results, Try.results23, go_sem]) rfl ⟨_, rfl, World.ownsRow_nil _ _ _ _, Below.refl _ _⟩
  | some x =>
    have hsrc : ∀ j u, (rsCells l)[j]? = some u → (w.alloc (.cells #[] 43)).cell? (x.add j) = some u := by
      intro j u hu
      have hj := (List.getElem?_eq_some_iff.1 hu).1
      rw [rsCells_len hok] at hj
      obtain ⟨b, o, hx, hb, hA⟩ := hc (by omega)
      injection hx with hx
      subst hx
      rw [Addr.add_lit]
      exact (World.cell?_of_block (w := w) (Below.heap_alloc _ _ _ hb)).trans (rs_range hA j u hu)
    have hown : (w.alloc (.cells #[] 43)).ownsRow w.heap.size 43 44 (.slice (some ⟨w.heap.size, 0, none⟩) 0 0) 0 [] :=
      ⟨rfl, .inr ⟨w.heap.size, 0, #[], rfl, Nat.le_refl _, alloc_block_new w _, Nat.le_refl _, by decide, rfl, rfl⟩⟩
    go_enter Try.func23, Try.ntmps23
    go_wp2_with (at_builtin; refine wpList_append_own _ rfl (.tmp 5) (.tmp 6) 22 rfl w.heap.size 43 i0 _ 44 104 Try.underlying22 hi hz0 hz1 hz2 rfl (by decide) _ 0 [] rfl hown x l.length cap (rsCells l) rfl (rsCells_len hok) hsrc rsCells_one (by unfold maxLen; omega) (by omega) (by simp) ?_)
    intro v' w' ho hg _
    go_wp2_with fail
    refine bodyPost_ret (v := v') (by simp [results, Try.results23, go_sem]) rfl ⟨_, rfl, by simpa using ho, ?_⟩
    have h1 : Only (fun _ => False) w (w.alloc (.cells #[] 43)) := (Only.refl _ _).alloc _
    exact (h1.grown hg (fun k hk hl => by injection hk with hk; subst hk; exact absurd hl (Nat.lt_irrefl _))).below (Nat.le_refl _) (fun _ _ h => h)
end Go.Proofs.Ytcbkcalemfminaa

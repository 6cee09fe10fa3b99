/- Bytes: slices of them as they lie in memory, and slices.Clone of []byte. Over any seat. -/
import Derived.Test.YthipfcmjpgbemaaRow
import Derived.Test.YthipfcmjpgbemaaRows
import Derived.Outline
import Derived.Lib.SliceRun
namespace Go.Proofs.Ythipfcmjpgbemaa
open Go.RowKit

/-- Bytes as cells. -/
def u8s (zs : List Nat) : List Value := zs.map fun (z : Nat) => Value.int .u8 (z : Int)
@[simp] theorem u8s_len (zs : List Nat) : (u8s zs).length = zs.length := by simp [u8s]
theorem u8s_one {zs : List Nat} : ∀ u ∈ u8s zs, u.oneCell' = true := by
  intro u hu
  obtain ⟨z, _, rfl⟩ := List.mem_map.1 hu
  rfl
theorem u8s_get (zs : List Nat) (j : Nat) (hj : j < zs.length) : (u8s zs)[j]? = some (.int .u8 (zs.getD j 0 : Nat)) := by
  simp [u8s, List.getElem?_eq_getElem hj]

/-- v is a slice that holds these bytes: nil, empty, or some. -/
def Holds8 (w : World) (v : Value) (zs : List Nat) : Prop :=
  ∃ ao cap, v = .slice ao zs.length cap ∧ zs.length ≤ cap ∧ (ao = none → cap = 0) ∧ (0 < zs.length → ∀ x, ao = some x → x.block < w.heap.size) ∧
    (0 < zs.length → ∃ b o, ao = some ⟨b, o, none⟩ ∧ ∀ j, j < zs.length → w.cell? ⟨b, o + j, none⟩ = some (.int .u8 (zs.getD j 0 : Nat)))

/-- An own row of bytes. -/
abbrev Own8 (w : World) (base : Nat) (v : Value) (zs : List Nat) : Prop := w.ownsRow base 5 1 v zs.length (u8s zs)

theorem Own8.holds {w : World} {base : Nat} {v : Value} {zs : List Nat} (h : Own8 w base v zs) : Holds8 w v zs := by
  rcases h.2 with ⟨hv, h0⟩ | ⟨g, cap, cur, hv, hg, hh, hnc, hcm, hcs, hx⟩
  · exact ⟨none, 0, by rw [hv, h0], by omega, fun _ => rfl, by simp, fun h => by omega⟩
  · refine ⟨_, cap, hv, hnc, by simp, fun _ x hx => by injection hx with hx; subst hx; exact lt_of_obj hh, fun h0 => ⟨g, 0, rfl, fun j hj => ?_⟩⟩
    refine (cell_of_block hh _).trans ?_
    have e := u8s_get zs j hj
    rw [← hx] at e
    simpa [hj] using e

theorem Holds8.keep {w w' : World} {v : Value} {zs : List Nat} (h : Holds8 w v zs) (hs : w.heap.size ≤ w'.heap.size) (hk : ∀ k, v.ownBlock = some k → w'.heap[k]? = w.heap[k]?) : Holds8 w' v zs := by
  obtain ⟨ao, cap, rfl, h1, h2, h3, h4⟩ := h
  refine ⟨ao, cap, rfl, h1, h2, fun h0 x hx => Nat.lt_of_lt_of_le (h3 h0 x hx) hs, fun h0 => ?_⟩
  obtain ⟨b, o, rfl, hc⟩ := h4 h0
  refine ⟨b, o, rfl, fun j hj => ?_⟩
  rw [← hc j hj]
  exact World.cell?_of_block (w := w) (hk b rfl)
theorem Holds8.below {w w' : World} {v : Value} {zs : List Nat} (h : Holds8 w v zs) (hb : Below w.heap.size w w') : Holds8 w' v zs := by
  by_cases h0 : 0 < zs.length
  · refine h.keep hb.size fun k hk => hb.block k ?_
    obtain ⟨ao, cap, rfl, _, _, h3, _⟩ := h
    cases ao with
    | none => cases hk
    | some x => injection hk with hk; subst hk; exact h3 h0 x rfl
  · obtain ⟨ao, cap, e, h1, h2, _, _⟩ := h
    exact ⟨ao, cap, e, h1, h2, fun h => absurd h h0, fun h => absurd h h0⟩

theorem info_u8c : (Try.prog.info? 5).map (fun i => (i.zero, i.size, i.bytes)) = some (some (Value.int .u8 0), 1, 1) := by kernel_rfl

set_option maxRecDepth 100000 in
theorem clone_any (v : Value) (zs : List Nat) (w : World) (h : Holds8 w v zs) (hlen : zs.length ≤ 1099511627776) :
    Calls Try.prog 64 #[v] w fun e w' => ∃ v', e = .returned v' ∧ Own8 w' w.heap.size v' zs ∧ Below w.heap.size w w' := by
  obtain ⟨i0, hi, hz0, hz1, hz2⟩ := info_parts info_u8c
  obtain ⟨ao, cap, rfl, hcap, hnone, hlt, hc⟩ := h
  have q : ∀ (w : World) (a : Option Addr) (n c n' c' : Nat), (binOp .eql 32 (.slice a n c) (.slice none n' c')).run Try.prog w = .ok (.bool a.isNone) w := fun w a n c n' c' => Lib.run_eql_slice_nil w _ _ a n c n' c' Try.underlying32
  cases ao with
  | none =>
    have h0 : zs.length = 0 := by have := hnone rfl; omega
    have hz : zs = [] := List.eq_nil_of_length_eq_zero h0
    subst hz
    go_enter Try.func64, Try.ntmps64
    go_wp2_with fail
    exact bodyPost_ret (v := .slice none 0 0) (by simp [results, Try.results64, go_sem]) rfl ⟨_, rfl, World.ownsRow_nil _ _ _ _, Below.refl _ _⟩
  | some x =>
    have hsrc : ∀ j u, (u8s zs)[j]? = some u → (w.alloc (.cells #[] 5)).cell? (x.add j) = some u := by
      intro j u hu
      have hj : j < zs.length := by
        have := (List.getElem?_eq_some_iff.1 hu).1
        simpa using this
      obtain ⟨b, o, hx, hc2⟩ := hc (by omega)
      injection hx with hx
      subst hx
      rw [u8s_get zs j hj] at hu
      rw [← hu, ← hc2 j hj, Addr.add_lit]
      exact World.cell?_of_block (w := w) (Below.heap_alloc _ _ _ (hlt (by omega) ⟨b, o, none⟩ rfl))
    have hown : (w.alloc (.cells #[] 5)).ownsRow w.heap.size 5 1 (.slice (some ⟨w.heap.size, 0, none⟩) 0 0) 0 [] :=
      ⟨rfl, .inr ⟨w.heap.size, 0, #[], rfl, Nat.le_refl _, alloc_block_new w _, Nat.le_refl _, by decide, rfl, rfl⟩⟩
    go_enter Try.func64, Try.ntmps64
    go_wp2_with (at_builtin; refine wpList_append_own _ rfl (.tmp 5) (.tmp 6) 32 rfl w.heap.size 5 i0 (.int .u8 0) 1 1 Try.underlying32 hi hz0 hz1 hz2 rfl (by decide) _ 0 [] rfl hown x zs.length cap (u8s zs) rfl (by simp) hsrc u8s_one (by unfold maxLen; omega) (by omega) (by simp) ?_)
    intro v' w' ho hg _
    go_wp2_with fail
    refine bodyPost_ret (v := v') (by simp [results, Try.results64, go_sem]) rfl ⟨_, rfl, ho, ?_⟩
    have h1 : Only (fun _ => False) w (w.alloc (.cells #[] 5)) := (Only.refl _ _).alloc _
    exact (h1.grown hg (fun k hk hl => by injection hk with hk; subst hk; exact absurd hl (Nat.lt_irrefl _))).below (Nat.le_refl _) (fun _ _ h => h)
end Go.Proofs.Ythipfcmjpgbemaa

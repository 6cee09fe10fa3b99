/- All, walked. -/
import Derived.Test.YthipfcmjpgbemaaFq3
namespace Go.Proofs.Ythipfcmjpgbemaa
open Go.RowKit Go.Shelf

theorem all_nil (w : World) : Calls Try.prog 33 #[.pointer none] w fun e w' => e = .returned (.slice none 0 0) ∧ w' = w := by
  go_enter Try.func33, Try.ntmps33
  go_wp2_with fail
  go_ret
  exact ⟨rfl, rfl⟩

set_option maxRecDepth 100000 in
set_option maxHeartbeats 2000000 in
theorem all_items {w : World} {p : Nat} {r : Nat → Nat} {Q : QS} {rv : Value} {f n : Nat} {xs : List Value} (hQ : IsQ w p r Q rv f n xs) :
    Calls Try.prog 33 #[.pointer (some ⟨p, 0, none⟩)] w fun e w' => ∃ v ys F, e = .returned v ∧ NewI w.heap.size w' F v ys Q.L ∧ Below w.heap.size w w' := by
  have HQ := Lib.hid hQ
  clear hQ
  have t1 : Fence.wide.fn 56 := trivial
  have h1 : 1 ≤ 5 := by decide
  refine (callsIn_wide (n := 5)).1 ?_
  refine callsIn_of_wp_marks Try.func33 rfl trivial ?_ rfl
  simp only [Try.ntmps33, List.size_toArray, List.length_cons, List.length_nil, Nat.reduceAdd, Nat.reduceSub, Array.replicate_succ, Array.replicate_zero, List.push_toArray, List.append_toArray, List.nil_append, List.cons_append]
  gi_wp2_with (gi_at_call 56; refine (callsIn_wide.2 (all_is p _)).mono ?_; rintro e w' ⟨rfl, rfl⟩)
  refine wpIn_rangeFunc ?_
  intro fn hfn
  obtain ⟨W0, hW0⟩ : ∃ W0, (w.alloc (.cells #[.slice none 0 0] 49)).alloc (.cells #[.pointer (some ⟨p, 0, none⟩)] 74) = W0 := ⟨_, rfl⟩
  have hs0 : W0.heap.size = w.heap.size + 2 := by rw [← hW0]; simp
  have hv0 : W0.heap[w.heap.size]? = some (.cells #[.slice none 0 0] 49 (0, 0)) := by rw [← hW0]; exact (alloc_block_old _ (by simp)).trans (alloc_block_new w _)
  have hq0 : W0.heap[w.heap.size + 1]? = some (.cells #[.pointer (some ⟨p, 0, none⟩)] 74 (0, 0)) := by rw [← hW0]; exact alloc_block_at _ _ (by simp)
  have hb0 : Below w.heap.size w W0 := by rw [← hW0]; exact ((Below.refl _ w).alloc (Nat.le_refl _) _).alloc (by simp) _
  rw [hW0]
  obtain ⟨Bs, eBs⟩ : ∃ b, w.heap.size = b := ⟨_, rfl⟩
  obtain ⟨W1, hW1⟩ : ∃ W1, (W0.alloc (.deferred (some []))).alloc (.loop (allRec fn p Bs (Bs + 1) W0.heap.size .ready none)) = W1 := ⟨_, rfl⟩
  have hold : Below W0.heap.size W0 W1 := by rw [← hW1]; exact ((Below.refl _ _).alloc (Nat.le_refl _) _).alloc (by simp) _
  have hb1 : Below w.heap.size w W1 := hb0.trans (hold.mono hb0.size)
  have hD1 : W1.heap[W0.heap.size]? = some (.deferred (some [])) := by rw [← hW1]; exact (alloc_block_old _ (by simp)).trans (alloc_block_new W0 _)
  have hl1 : W1.heap[W0.heap.size + 1]? = some (.loop (allRec fn p Bs (Bs + 1) W0.heap.size .ready none)) := by rw [← hW1]; exact alloc_block_at _ _ (by simp)
  rw [eBs] at hv0 hq0 hs0 ⊢
  have hM : AAt w fn p Bs (Bs + 1) (W0.heap.size + 1) W0.heap.size [] 0 W1 :=
    ⟨⟨.slice none 0 0, [], fun _ => False, (hold.block Bs (by omega)).trans hv0, ⟨World.ownsRow_nil _ _ _ _, fun i x h => by simp at h, fun _ h => h.elim, fun _ h => h.elim, fun i j yi yj _ hj => absurd hj (by simp)⟩, fun _ h => h.elim⟩, hl1, hD1, hb1, (hold.block (Bs + 1) (by omega)).trans hq0⟩
  refine ⟨W0.heap.size + 1, [{ target := .collected W0.heap.size, args := #[] }], W1, { target := .fn (.func 67) #[.pointer (some ⟨Bs + 1, 0, none⟩)], args := #[.func (.yield (W0.heap.size + 1)) #[] #[]] }, W1, 67,
    #[.func (.yield (W0.heap.size + 1)) #[] #[]] ++ #[.pointer (some ⟨Bs + 1, 0, none⟩)], W1, ?_, ?_, ?_, ?_, fun _ => h1, ?_⟩
  · rw [← hW1]; exact run_enterLoop_outer _ _ _ _ _
  · simp [resolve, rangeCall, go_sem]
  · intro f' _; exact trivial
  · simp [invoke, go_sem, enters_of Try.func67 (by kernel_rfl) rfl]
  · refine (all1 w fn p Bs (Bs + 1) (W0.heap.size + 1) W0.heap.size (by omega) (by omega) (by omega) (by omega) (by omega) (by omega) (by omega) HQ.out W1 0 hM (5 - 1) (by decide)).mono ?_
    rintro e W2 ⟨⟨v0, rfl⟩, h2⟩
    obtain ⟨v, ys, F, hv, hN, _⟩ := h2.box
    have hend := run_endLoop (P := Try.prog) h2.L (by simp [allRec])
    have hP := Only.putObj W2 (W0.heap.size + 1) (.loop { allRec fn p Bs (Bs + 1) W0.heap.size .ready none with state := .exhausted })
    have hv3 := hP.keep hv (by omega)
    have hK3 := hP.keep h2.K (by omega)
    have hN3 := hN.other h2.L (fun c e => by cases e) (fun c e => by cases e) hP
    have hb3 : Below w.heap.size w _ := h2.below.trans (hP.below h2.below.size (fun k hk e => by omega))
    generalize W2.putObj (W0.heap.size + 1) (.loop { allRec fn p Bs (Bs + 1) W0.heap.size .ready none with state := .exhausted }) = W3 at *
    have c3 : W3.cell? ⟨Bs, 0, none⟩ = some v := cell_of_block hv3 0
    obtain ⟨D, eD⟩ : ∃ d, W0.heap.size = d := ⟨_, rfl⟩
    rw [eD] at hK3 hend hs0 ⊢
    have HK3 := Lib.hid hK3
    have HN3 := Lib.hid hN3
    have HB3 := Lib.hid hb3
    have HS0 := Lib.hid hs0
    have HEB := Lib.hid eBs
    clear hv hN h2 hP hv3 hK3 hN3 hb3 hM hl1 hD1 hb1 hold hW1 hq0 hv0 hb0 hW0 eD eBs hs0
    refine ⟨none, W3, hend, ?_⟩
    clear hend
    gi_wp2
    refine ⟨by simp, .inl ⟨_, _, rfl, run_takeDeferred HK3.out, ?_⟩⟩
    have hP := Only.putObj W3 D (.deferred none)
    have hw := HS0.out
    have he := HEB.out
    exact ⟨_, results_tmp rfl _ _ _, v, ys, F, rfl, HN3.out.other HK3.out (fun c e => by cases e) (fun c e => by cases e) hP, HB3.out.trans (hP.below HB3.out.size (fun k hk e => by omega))⟩
end Go.Proofs.Ythipfcmjpgbemaa

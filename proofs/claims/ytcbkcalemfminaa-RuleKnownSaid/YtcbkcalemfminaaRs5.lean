/- The counts, cloned and told: walked. -/
import Derived.Test.YtcbkcalemfminaaRs4
namespace Go.Proofs.Ytcbkcalemfminaa
open Go.RowKit
attribute [local go_sem ↓] load_ad load_pf load_ru load_ky load_bs build_pf build_ru build_cl

theorem hCells_one {hs : List Nat} : ∀ u ∈ hCells hs, u.oneCell' = true := by
  intro u hu
  obtain ⟨n, _, rfl⟩ := List.mem_map.1 hu
  rfl
set_option maxRecDepth 100000 in
theorem uclone_is {w : World} {B : Nat} {v : Value} {hs : List Nat} (h : w.ownsRow B 62 1 v hs.length (hCells hs)) (hlen : hs.length ≤ 1000000) (h0 : 0 < hs.length) :
    Calls Try.prog 31 #[v] w fun e w' => ∃ v', e = .returned v' ∧ w'.ownsRow w.heap.size 62 1 v' hs.length (hCells hs) ∧ Below w.heap.size w w' := by
  obtain ⟨i0, hi, hz0, hz1, hz2⟩ := info_parts info_u64
  have q : ∀ (w : World) (a : Option Addr) (n c n' c' : Nat), (binOp .eql 49 (.slice a n c) (.slice none n' c')).run Try.prog w = .ok (.bool a.isNone) w := fun w a n c n' c' => Lib.run_eql_slice_nil w _ _ a n c n' c' Try.underlying49
  rcases h.2 with ⟨_, e0⟩ | ⟨g, cap, cur, rfl, hg, hh, hnc, hcm, hcs, hx⟩
  · omega
  · have hsrc : ∀ j u, (hCells hs)[j]? = some u → (w.alloc (.cells #[] 62)).cell? ((⟨g, 0, none⟩ : Addr).add j) = some u := by
      intro j u hu
      have hj := (List.getElem?_eq_some_iff.1 hu).1
      simp [hCells] at hj
      rw [Addr.add_lit, Nat.zero_add]
      refine (World.cell?_of_block (w := w) (Below.heap_alloc _ _ _ (lt_of_obj hh))).trans ?_
      rw [cell_of_block hh, ← hu, ← hx, List.getElem?_take_of_lt (by omega)]
      simp
    have hown : (w.alloc (.cells #[] 62)).ownsRow w.heap.size 62 1 (.slice (some ⟨w.heap.size, 0, none⟩) 0 0) 0 [] :=
      ⟨rfl, .inr ⟨w.heap.size, 0, #[], rfl, Nat.le_refl _, alloc_block_new w _, Nat.le_refl _, by decide, rfl, rfl⟩⟩
    have hl1 : (hCells hs).length = hs.length * 1 := by simp [hCells]
    clear hx hh hcs
    go_enter Try.func31, Try.ntmps31
    go_wp2_with (at_builtin; refine wpList_append_own _ rfl (.tmp 5) (.tmp 6) 49 rfl w.heap.size 62 i0 _ 1 8 Try.underlying49 hi hz0 hz1 hz2 rfl (by decide) _ 0 [] rfl hown ⟨g, 0, none⟩ hs.length cap (hCells hs) rfl hl1 hsrc hCells_one (by unfold maxLen; omega) (by omega) (by simp) ?_)
    intro v' w' ho hg' _
    go_wp2_with fail
    refine bodyPost_ret (v := v') (by simp [results, Try.results31, go_sem]) rfl ⟨_, rfl, by simpa using ho, ?_⟩
    have h1 : Only (fun _ => False) w (w.alloc (.cells #[] 62)) := (Only.refl _ _).alloc _
    exact (h1.grown hg' (fun k hk hl => by injection hk with hk; subst hk; exact absurd hl (Nat.lt_irrefl _))).below (Nat.le_refl _) (fun _ _ h => h)
set_option maxRecDepth 100000 in
theorem hits_is {w : World} {B T p : Nat} {o : Ru} {l : List Ru} {hs : List Nat} (hC : IsC w B T p o l hs) (hlen : l.length ≤ 1000) :
    Calls Try.prog 14 #[.pointer (some ⟨p, 0, none⟩)] w fun e w' => ∃ v, e = .returned v ∧ w'.ownsRow w.heap.size 62 1 v hs.length (hCells hs) ∧ Below w.heap.size w w' := by
  obtain ⟨va, vh, hb, _, hh, _⟩ := hC.ex
  have hl := hC.hlen
  have c45 := clH hC.ook hb
  obtain ⟨ha, hc, rfl⟩ := own_shape hh
  have HU := Lib.hid (uclone_is hh (by omega) (by omega))
  clear hC hb hh hl
  go_enter Try.func14, Try.ntmps14
  go_wp2_with fail
  refine HU.out.mono ?_
  rintro e w2 ⟨v, rfl, ho, hB⟩
  have HO := Lib.hid (And.intro ho hB)
  clear ho hB
  go_wp2_with fail
  go_ret
  exact ⟨_, rfl, HO.out.1, HO.out.2⟩
end Go.Proofs.Ytcbkcalemfminaa

/- Write, walked. -/
import Derived.Test.YtbgjahgmkbbgjaaDk3
import Derived.Test.YtbgjahgmkbbgjaaDk4
import Derived.Test.YtbgjahgmkbbgjaaStep
import Derived.Deep.DeepCutAuto
import Derived.Deep.RegionWith
namespace Go.Proofs.Ytbgjahgmkbbgjaa
open Go.RowKit

theorem info_write : (Try.prog.info? 46).map (fun i => (i.zero, i.size, i.bytes)) = some (some (.agg #[.int .i64 0, .slice none 0 0]), 2, 32) := by kernel_rfl

theorem write_nil (a : Int) (v : Value) (w : World) :
    Calls Try.prog 13 #[.pointer none, .int .i64 a, v] w fun e w' => e = .returned (.int .i64 1) ∧ w' = w := by
  go_enter Try.func13, Try.ntmps13
  go_wp2_with fail
  go_ret
  exact ⟨rfl, rfl⟩

theorem write_off (a : Int) (ao : Option Addr) (len cap : Nat) {w : World} {p : Nat} {r : Nat → Nat} {D : DS} {dv nv uv : Value} {xs : List Value} (h : IsD w p r D dv nv uv xs) (hN : D.now.length ≤ 65536) (hl : liesB D.now.length a len = false) :
    Calls Try.prog 13 #[.pointer (some ⟨p, 0, none⟩), .int .i64 a, .slice ao len cap] w fun e w' => e = .returned (.int .i64 130) ∧ w' = w := by
  have hs := lies_is a len h hN
  rw [hl] at hs
  clear h
  go_enter Try.func13, Try.ntmps13
  go_wp2_with fail
  refine hs.mono ?_
  rintro e w' ⟨rfl, rfl⟩
  go_wp2_with fail
  go_ret
  exact ⟨rfl, rfl⟩

theorem write_none (a : Int) (ao : Option Addr) (cap : Nat) {w : World} {p : Nat} {r : Nat → Nat} {D : DS} {dv nv uv : Value} {xs : List Value} (h : IsD w p r D dv nv uv xs) (hN : D.now.length ≤ 65536) (hl : liesB D.now.length a 0 = true) :
    Calls Try.prog 13 #[.pointer (some ⟨p, 0, none⟩), .int .i64 a, .slice ao 0 cap] w fun e w' => e = .returned (.int .i64 0) ∧ w' = w := by
  have hs := lies_is a 0 h hN
  rw [hl] at hs
  clear h
  go_enter Try.func13, Try.ntmps13
  go_wp2_with fail
  refine hs.mono ?_
  rintro e w' ⟨rfl, rfl⟩
  go_wp2_with fail
  go_ret
  exact ⟨rfl, rfl⟩

theorem two_new (w : World) (x y : Value) (e : TypeId) : ∀ j u, [x, y][j]? = some u → (w.alloc (.cells #[x, y] e)).cell? ((⟨w.heap.size, 0, none⟩ : Addr).add j) = some u := by
  intro j u h
  have hj : j < 2 := (List.getElem?_eq_some_iff.1 h).1
  rw [Addr.add_lit, Nat.zero_add]
  refine (cell_of_block (alloc_block_new w _) j).trans ?_
  rcases (show j = 0 ∨ j = 1 by omega) with rfl | rfl <;> simpa using h

/-- Behind the append of a write's copy, ahead of the copy into now. -/
def WRel (w : World) (p : Nat) (r : Nat → Nat) (D : DS) (dv nv : Value) (i : Nat) (d : List Nat) (w' : World) : Prop :=
  ∃ r' uv' xs', IsD w' p r' ⟨D.dur, D.now, D.uns ++ [(i, d)]⟩ dv nv uv' xs' ∧ Only (fun k => r k ≠ 0) w w' ∧ (∀ k, r' k ≠ 0 → r k ≠ 0 ∨ w.heap.size ≤ k)

theorem own_lt {w : World} {base : Nat} {e : TypeId} {size : Nat} {v : Value} {n : Nat} {xs : List Value} (h : w.ownsRow base e size v n xs) : ∀ k, v.ownBlock = some k → k < w.heap.size := by
  intro k hk
  rcases h.2 with ⟨hv, _⟩ | ⟨g, cap, cur, hv, _, hh, _⟩
  · rw [hv] at hk; cases hk
  · rw [hv] at hk; injection hk with hk; subst hk; exact lt_of_obj hh
theorem Holds8.lt {w : World} {v : Value} {zs : List Nat} (h : Holds8 w v zs) (h0 : 0 < zs.length) : ∀ k, v.ownBlock = some k → k < w.heap.size := by
  intro k hk
  obtain ⟨ao, cap, rfl, _, _, h3, _⟩ := h
  cases ao with
  | none => cases hk
  | some x => injection hk with hk; subst hk; exact h3 h0 x rfl
theorem own_cap {w : World} {base : Nat} {zs : List Nat} {v : Value} {a : Option Addr} {n c : Nat} (h : Own8 w base v zs) (hv : v = .slice a n c) : zs.length ≤ c := by
  rcases h.2 with ⟨_, h0⟩ | ⟨g, cap, cur, hv2, _, _, hnc, _⟩
  · omega
  · rw [hv] at hv2; injection hv2 with _ _ e; omega

theorem write_rel {w w4 w5 : World} {p : Nat} {r : Nat → Nat} {D : DS} {dv nv uv : Value} {xs : List Value} (h : IsD w p r D dv nv uv xs) (i : Nat) (d : List Nat) {v v2 : Value} {o : Obj}
    (hO : Own8 w4 w.heap.size v d) (hB : Below w.heap.size w w4) (hOW : w5.ownsRow 0 46 2 v2 (D.uns.length + 1) (xs ++ [.int .i64 i, v])) (hG : (w4.alloc o).grownBy w5 uv.ownBlock)
    (hBB : v2.ownBlock = uv.ownBlock ∨ v2.ownBlock = some (w4.alloc o).heap.size) (hP5 : w5.heap[p]? = some (.cells #[dv, nv, uv] 53 (0, 0))) : WRel w p r D dv nv i d (w5.setCell ⟨p, 2, none⟩ v2) := by
  have hp : p < w.heap.size := lt_of_obj h.blk
  have hs4 : w.heap.size ≤ w4.heap.size := hB.size
  obtain ⟨hC, hCO⟩ := set2_block hP5 v2
  have hsz : (w4.alloc o).heap.size = w4.heap.size + 1 := by simp
  rw [hsz] at hBB
  have hOB : Only (fun k => uv.ownBlock = some k) w w5 := ((Below.only hB _).alloc _).grown hG (fun k hk _ => hk)
  have hF : Only (fun k => uv.ownBlock = some k ∨ k = p) w (w5.setCell ⟨p, 2, none⟩ v2) := (hOB.mono (fun _ _ e => .inl e)).trans (hCO.mono (fun _ _ e => .inr e))
  have gv := own_ge hO
  have hsf : w.heap.size ≤ (w5.setCell ⟨p, 2, none⟩ v2).heap.size := hF.size
  have nv1 : ∀ k, r k ≠ 0 → v.ownBlock ≠ some k := fun k hk e => by have := gv k e; have := h.lt k hk; omega
  have nv2 : ∀ k, r k ≠ 0 → r k ≠ 4 → v2.ownBlock ≠ some k := fun k hk h4 e => by
    rcases hBB with e2 | e2
    · exact h4 (h.ru k (by rw [← e2]; exact e))
    · rw [e2] at e; injection e with e; have := h.lt k hk; omega
  have hr : ∀ k, r k ≠ 0 → r k ≠ 4 → (if v.ownBlock = some k then 5 else if v2.ownBlock = some k then 4 else r k) = r k := fun k h0 h4 => by rw [if_neg (nv1 k h0), if_neg (nv2 k h0 h4)]
  have hS : ∀ k, r k ≠ 0 → r k ≠ 4 → r k ≠ 1 → ¬ (uv.ownBlock = some k ∨ k = p) := fun k _ h4 h1 e => by
    rcases e with e | rfl
    · exact h4 (h.ru k e)
    · exact h1 h.rp
  have v2p : v2.ownBlock ≠ some p := nv2 p (by rw [h.rp]; decide) (by rw [h.rp]; decide)
  have vp : v.ownBlock ≠ some p := nv1 p (by rw [h.rp]; decide)
  have hv5 : Own8 (w5.setCell ⟨p, 2, none⟩ v2) 0 v d := by
    refine own_lower (own_only (own_only (own_only hO ((Only.refl (fun _ => False) w4).alloc o) (fun _ _ h => h)) ((Only.refl (fun k => uv.ownBlock = some k) (w4.alloc o)).grown hG (fun k hk _ => hk)) (fun k hk e => ?_)) hCO (fun k hk e => ?_)) (Nat.zero_le _)
    · have := gv k hk; have := h.lt k (by rw [h.ru k e]; decide); omega
    · subst e; exact vp hk
  refine ⟨fun k => if v.ownBlock = some k then 5 else if v2.ownBlock = some k then 4 else r k, v2, xs ++ [.int .i64 i, v], ⟨hC, ?_, ?_, ?_, ?_, ?_, ?_, ?_, ?_, ?_⟩, ?_, ?_⟩
  · exact own_only h.dur hF (fun k hk => hS k (by rw [h.rd k hk]; decide) (by rw [h.rd k hk]; decide) (by rw [h.rd k hk]; decide))
  · exact own_only h.now hF (fun k hk => hS k (by rw [h.rn k hk]; decide) (by rw [h.rn k hk]; decide) (by rw [h.rn k hk]; decide))
  · have := own_only hOW hCO (fun k hk e => by subst e; exact v2p hk)
    simpa using this
  · refine WCells.snoc hv5 (fun k hk => by rw [if_pos hk]) ?_
    exact (h.wcs.keep hF (fun k hk => hS k (by rw [hk]; decide) (by rw [hk]; decide) (by rw [hk]; decide))).mono (fun k hk => by rw [hr k (by rw [hk]; decide) (by rw [hk]; decide)]; exact hk)
  · rw [hr p (by rw [h.rp]; decide) (by rw [h.rp]; decide)]; exact h.rp
  · intro k hk; rw [hr k (by rw [h.rd k hk]; decide) (by rw [h.rd k hk]; decide)]; exact h.rd k hk
  · intro k hk; rw [hr k (by rw [h.rn k hk]; decide) (by rw [h.rn k hk]; decide)]; exact h.rn k hk
  · intro k hk
    rw [if_neg (fun e => ?_), if_pos hk]
    have g1 := gv k e
    rcases hBB with e2 | e2
    · have := h.lt k (by rw [h.ru k (by rw [← e2]; exact hk)]; decide); omega
    · rw [e2] at hk; injection hk with hk
      have := own_lt hO k e
      omega
  · intro k hk
    split at hk
    · exact own_lt hv5 k ‹_›
    · split at hk
      · exact own_lt (own_only hOW hCO (fun k hk e => by subst e; exact v2p hk)) k ‹_›
      · exact Nat.lt_of_lt_of_le (h.lt k hk) hsf
  · refine hF.mono (fun k _ e => ?_)
    rcases e with e | rfl
    · rw [h.ru k e]; decide
    · rw [h.rp]; decide
  · intro k hk
    simp only at hk
    split at hk
    · exact .inr (gv k ‹_›)
    · split at hk
      · rename_i e2
        rcases hBB with e | e
        · rw [e] at e2; exact .inl (by rw [h.ru k e2]; decide)
        · rw [e] at e2; injection e2 with e2; exact .inr (by omega)
      · exact .inl hk

theorem IsD.setNow {w w' : World} {p : Nat} {r : Nat → Nat} {D : DS} {dv nv uv : Value} {xs : List Value} (h : IsD w p r D dv nv uv xs) {zs : List Nat} (hn : Own8 w' 0 nv zs) (hO : Only (fun k => nv.ownBlock = some k) w w') :
    IsD w' p r ⟨D.dur, zs, D.uns⟩ dv nv uv xs :=
  have hS : ∀ k, r k ≠ 3 → ¬ nv.ownBlock = some k := fun k hk e => hk (h.rn k e)
  ⟨hO.keep h.blk (hS p (by rw [h.rp]; decide)), own_only h.dur hO (fun k hk => hS k (by rw [h.rd k hk]; decide)), hn,
    own_only h.uns hO (fun k hk => hS k (by rw [h.ru k hk]; decide)), h.wcs.keep hO (fun k hk => hS k (by rw [hk]; decide)), h.rp, h.rd, h.rn, h.ru, fun k hk => Nat.lt_of_lt_of_le (h.lt k hk) hO.size⟩
theorem IsD.setDur {w w' : World} {p : Nat} {r : Nat → Nat} {D : DS} {dv nv uv : Value} {xs : List Value} (h : IsD w p r D dv nv uv xs) {zs : List Nat} (hn : Own8 w' 0 dv zs) (hO : Only (fun k => dv.ownBlock = some k) w w') :
    IsD w' p r ⟨zs, D.now, D.uns⟩ dv nv uv xs :=
  have hS : ∀ k, r k ≠ 2 → ¬ dv.ownBlock = some k := fun k hk e => hk (h.rd k e)
  ⟨hO.keep h.blk (hS p (by rw [h.rp]; decide)), hn, own_only h.now hO (fun k hk => hS k (by rw [h.rn k hk]; decide)),
    own_only h.uns hO (fun k hk => hS k (by rw [h.ru k hk]; decide)), h.wcs.keep hO (fun k hk => hS k (by rw [hk]; decide)), h.rp, h.rd, h.rn, h.ru, fun k hk => Nat.lt_of_lt_of_le (h.lt k hk) hO.size⟩

set_option maxRecDepth 100000 in
theorem write_is (i : Nat) (y : Value) (d : List Nat) {w : World} {p : Nat} {r : Nat → Nat} {D : DS} {dv nv uv : Value} {xs : List Value} (h : IsD w p r D dv nv uv xs) (hN : D.now.length ≤ 65536)
    (hy : Holds8 w y d) (hyr : ∀ k, y.ownBlock = some k → r k = 0) (hl : i + d.length ≤ D.now.length) (hd : 0 < d.length) (hu : D.uns.length ≤ 1000000) :
    Calls Try.prog 13 #[.pointer (some ⟨p, 0, none⟩), .int .i64 i, y] w fun e w' => e = .returned (.int .i64 0) ∧ WRel w p r ⟨D.dur, laid D.now i d, D.uns⟩ dv nv i d w' := by
  obtain ⟨i0, hi, hz0, hz1, hz2⟩ := info_parts info_write
  obtain ⟨b, o, hyv, hsrc⟩ : ∃ ao cap, y = .slice ao d.length cap ∧ Holds8 w (.slice ao d.length cap) d := by
    obtain ⟨ao, cap, e, _⟩ := id hy
    exact ⟨ao, cap, e, e ▸ hy⟩
  have hs := lies_is i d.length h hN
  rw [show liesB D.now.length i d.length = true by simp [liesB]; omega] at hs
  have HU := Lib.hid h
  obtain ⟨ua, uc, huv⟩ := own_shape h.uns
  have c2 := h.c2
  have hp : p < w.heap.size := lt_of_obj h.blk
  rw [huv] at c2
  have HY := Lib.hid hsrc
  have HR := Lib.hid hyr
  have HRN := Lib.hid h.rn
  clear h hy hsrc hyr
  subst hyv
  go_enter Try.func13, Try.ntmps13
  go_wp2_with fail
  refine hs.mono ?_
  rintro e w' ⟨rfl, rfl⟩
  clear hs
  go_wp2_with fail
  obtain ⟨w, rfl⟩ : ∃ w0 : World, w0 = w' := ⟨_, rfl⟩
  have hu0 := (HU.out.keep (Only.refl (fun _ => False) w).drew (fun _ _ h => h)).uns
  rw [huv] at hu0
  have HU0 := Lib.hid hu0
  clear hu0
  have HNE := Lib.hid (show (Value.slice ua D.uns.length uc).ownBlock ≠ some p from fun e => by
    have h1 := HU.out.ru p (by rw [huv]; exact e)
    rw [HU.out.rp] at h1
    exact absurd h1 (by decide))
  go_cut [31] (fun (_ : Value) (wr : World) => WRel w p r D dv nv i d wr)
  case first =>
    go_region_law (first
      | (refine step_append_row rfl (.tmp 25) (.tmp 30) 40 rfl 46 i0 (.agg #[.int .i64 0, .slice none 0 0]) 2 32 Try.underlying40 hi hz0 hz1 hz2 rfl (by decide) _ D.uns.length xs rfl (HOU.out.alloc _) ⟨w4.heap.size, 0, none⟩ 1 1 [.int .i64 i, .slice av d.length cv] rfl rfl (two_new _ _ _ _) (by intro u hu; simp at hu; rcases hu with rfl | rfl <;> rfl) (by unfold maxLen; omega) (by omega) ?_
         intro v' w5 hown' hg' hb'
         obtain ⟨av2, cv2, rfl⟩ := own_shape hown'
         have hP4 := (HB4.out.block p hp).trans HU.out.blk
         have hP5 := grown_keep hg' ((alloc_block_old _ (lt_of_obj hP4)).trans hP4) HNE.out
         have k5 : w5.cell? ⟨p, 2, none⟩ = some uv := cell_of_block hP5 2
         have f5 : w5.frozen? ⟨p, 2, none⟩ = false := free_of_block hP5 2
         have HOW := Lib.hid hown'
         have HG := Lib.hid hg'
         have HBB := Lib.hid hb'
         clear hown' hg' hb' hP4)
      | (go_simp
         go_at_call 27
         refine (copied_is i _ d _ (HY.out.below (Below.refl _ _).drew) (by omega)).mono ?_
         rintro e w4 ⟨v, rfl, ho, hB4⟩
         obtain ⟨av, cv, rfl⟩ := ho.shape
         have HO := Lib.hid ho
         have HB4 := Lib.hid hB4
         have HOU := Lib.hid (own_only HU0.out (Below.only hB4 (fun _ => False)) (fun _ _ h => h))
         have d2 := (hB4.cell (p := ⟨p, 2, none⟩) hp).trans c2
         have d3 : (w4.alloc (.cells #[.int .i64 i, .slice av d.length cv] 46)).cell? ⟨p, 2, none⟩ = some (.slice ua D.uns.length uc) := (World.cell?_of_block (w := w4) (Below.heap_alloc _ _ _ (Nat.lt_of_lt_of_le hp hB4.size))).trans d2
         clear ho hB4))
    all_goals
      go_wp2
      go_meet
      case rel => exact write_rel HU.out i d HO.out ((Below.refl _ _).drew.trans HB4.out) HOW.out (by rw [huv]; exact HG.out) (by rw [huv]; exact HBB.out) hP5
  case rest =>
    obtain ⟨r', uv', xs', hD, hO, hr'⟩ := hcut
    have hy2 : Holds8 wc (.slice b d.length o) d := HY.out.keep hO.size (fun k hk => hO.block k (HY.out.lt hd k hk) (fun e => e (HR.out k hk)))
    obtain ⟨nb, nc, hnv⟩ := hD.now.shape
    have c1 := hD.c1
    have hcap : D.now.length ≤ nc := own_cap hD.now hnv
    dsimp only at hnv c1
    rw [hnv] at c1
    obtain ⟨w6, hrun, hn6, hO6, hs6⟩ := run_copy8 hD.now i hl 3 nb nc (nc - i) hnv _ (.inl rfl) hy2
    clear c2 HU HU0 HY HR huv hp
    have HN6 := Lib.hid hn6
    have HO6 := Lib.hid hO6
    clear hn6 hO6
    have HD := Lib.hid hD
    have HO := Lib.hid hO
    have HR' := Lib.hid hr'
    clear hD hO hr'
    go_wp2_with fail
    go_ret
    rw [← hnv]
    have hDO := HD.out
    have hNO := HN6.out
    rw [hnv] at hNO
    exact ⟨rfl, r', uv', xs', hDO.setNow (by rw [hnv]; exact hNO) HO6.out, HO.out.trans (HO6.out.mono (fun k _ e => by rw [HRN.out k e]; decide)), HR'.out⟩
end Go.Proofs.Ytbgjahgmkbbgjaa

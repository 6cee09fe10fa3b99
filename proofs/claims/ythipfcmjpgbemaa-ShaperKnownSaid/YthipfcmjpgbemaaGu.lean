/- A shaper is held against the document's: walked. -/
import Derived.Test.YthipfcmjpgbemaaGt
namespace Go.Proofs.Ythipfcmjpgbemaa
open Go.RowKit

theorem NewI.st {base : Nat} {w : World} {F : Nat → Prop} {v : Value} {xs : List Value} {L : List It} (h : NewI base w F v xs L) : StR F xs L 3 0 := by
  refine ⟨fun i x y hx hy b hb => ?_, fun i j yi yj hij hj hi hjj => h.dj i j yi yj hij hj hi hjj⟩
  obtain ⟨y', hy'⟩ := h.cs i x hx
  have e := hy'.c2
  have hy : xs[i * 3 + 2]? = some y := hy
  rw [hy] at e
  injection e with e
  subst e
  exact hy'.f b hb
theorem NewI.mid {base : Nat} {w : World} {F : Nat → Prop} {v : Value} {xs : List Value} {L : List It} (h : NewI base w F v xs L) : MidR w w 34 3 0 F v xs L 0 0 := by
  refine ⟨Only.refl _ _, ⟨xs, own_lower h.row (Nat.zero_le _), fun _ _ => rfl⟩, fun i x y _ hx hy => ?_, h.ft, fun b hb hf => ?_⟩
  · obtain ⟨y', hy'⟩ := h.cs i x hx
    have e := hy'.c2
    have hy : xs[i * 3 + 2]? = some y := hy
    rw [hy] at e
    injection e with e
    subst e
    exact hy'.d
  · obtain ⟨c, hc⟩ := row_type h.row b hb
    obtain ⟨d, hd⟩ := h.ft b hf
    rw [hc] at hd
    injection hd with hd
    injection hd with _ e _
    exact absurd e (by decide)
theorem Queued_none {w : World} {p : Nat} {O : Nat → Nat} {v : Value} {ps : List Nat} {S : Sh} (h : IsS w p O v ps S) {c : Int} (hc : ¬ (0 ≤ c ∧ c < S.ls.length)) :
    Calls Try.prog 15 #[ptr p, .int .i64 c] w fun e w' => e = .returned (.slice none 0 0) ∧ w' = w := by
  have HL := Lib.hid (line_is h c)
  rw [lineAt_none h hc] at HL
  clear h hc
  unfold ptr at *
  go_enter Try.func15, Try.ntmps15
  go_wp2_with fail
  refine HL.out.mono ?_
  rintro e w1 ⟨rfl, rfl⟩
  go_wp2_with fail
  go_ret
  exact ⟨rfl, rfl⟩
theorem Stat_none {w : World} {p : Nat} {O : Nat → Nat} {v : Value} {ps : List Nat} {S : Sh} (h : IsS w p O v ps S) {c : Int} (hc : ¬ (0 ≤ c ∧ c < S.ls.length)) :
    Calls Try.prog 24 #[ptr p, .int .i64 c] w fun e w' => e = .returned (.agg #[.int .u64 0, .int .u64 0, .int .u64 0, .int .u64 0]) ∧ Below w.heap.size w w' := by
  have h1 := Stat_is h c
  have e : S.stat c = #[.int .u64 0, .int .u64 0, .int .u64 0, .int .u64 0] := by
    unfold Sh.stat
    by_cases h0 : c < 0
    · rw [if_pos h0]; rfl
    · rw [if_neg h0, List.getElem?_eq_none (by omega)]; rfl
  rw [e] at h1
  exact h1
theorem Stat_some {w : World} {p : Nat} {O : Nat → Nat} {v : Value} {ps : List Nat} {S : Sh} {c : Nat} {L : Ln} (h : IsS w p O v ps S) (hL : S.ls[c]? = some L) :
    Calls Try.prog 24 #[ptr p, .int .i64 c] w fun e w' => e = .returned (.agg #[.int .u64 L.off, .int .u64 L.drp, .int .u64 L.out, .int .u64 L.byt]) ∧ Below w.heap.size w w' := by
  have h1 := Stat_is h c
  have e : S.stat c = #[.int .u64 L.off, .int .u64 L.drp, .int .u64 L.out, .int .u64 L.byt] := by
    unfold Sh.stat
    rw [if_neg (by omega), Int.toNat_natCast, hL]
    rfl
  rw [e] at h1
  exact h1
theorem Queued_some {w : World} {p : Nat} {O : Nat → Nat} {v : Value} {ps : List Nat} {S : Sh} {c : Nat} {L : Ln} (h : IsS w p O v ps S) (hL : S.ls[c]? = some L) :
    Calls Try.prog 15 #[ptr p, .int .i64 c] w (AllOk w L.Q.L) := by
  have h1 := Queued_is h c
  have e : S.queued c = L.Q.L := by
    unfold Sh.queued
    rw [if_neg (by omega), Int.toNat_natCast, hL]
  rwa [e] at h1
theorem NewI.keep' {base : Nat} {w w' : World} {F : Nat → Prop} {v : Value} {xs : List Value} {L : List It} (h : NewI base w F v xs L) (hB : Below w.heap.size w w') : NewI base w' F v xs L :=
  have hO := Below.only hB (fun _ => False)
  ⟨own_only h.row hO (fun _ _ h => h), fun i x hx => let ⟨y, hy⟩ := h.cs i x hx; ⟨y, hy.keep hO (fun _ _ h => h)⟩, h.ge, fun k hk => let ⟨c, hc⟩ := h.ft k hk; ⟨c, hO.keep hc (fun h => h)⟩, h.dj⟩
/-- The items that are written over. -/
def ZiRel (W : World) (F : Nat → Prop) (v : Value) (ys : List Value) (L : List It) (iv : Value) (w : World) : Prop := ∃ i : Nat, iv = .int .i64 i ∧ i ≤ L.length ∧ MidR W w 34 3 0 F v ys L i i

set_option maxRecDepth 100000 in
set_option maxHeartbeats 2000000 in
theorem is_any {W w : World} {p : Nat} {O : Nat → Nat} {v : Value} {ps : List Nat} {pr : Nat} {bv qv sv : Value} {qs : List Value} {S : Sh} {n : Nat} (h : Both W w p O v ps pr bv qv sv qs S S) (hS : S.Ok n) (hn : n ≤ 10000) :
    Calls Try.prog 22 #[ptr p, ptr pr] w fun e w' => e = .returned (.bool true) ∧ Below w.heap.size w w' := by
  have HS := Lib.hid hS
  have H0 := Lib.hid h
  have hl8 := hS.len
  obtain ⟨qa, qc, rfl⟩ := h.r.rqa
  clear h hS
  have HN := Lib.hid (Next_is H0.out.m.is HS.out)
  unfold ptr at *
  go_enter Try.func22, Try.ntmps22
  go_wp2_with fail
  refine HN.out.mono ?_
  rintro e w1 ⟨rfl, hB1⟩
  have HR := Lib.hid (rNext_is (H0.out.r.below hB1) HS.out)
  unfold ptr at HR
  have HB1 := Lib.hid hB1
  clear hB1 HN
  go_wp2_with fail
  refine HR.out.mono ?_
  rintro e w2 ⟨rfl, hB2⟩
  have hB := HB1.out.trans (hB2.mono HB1.out.size)
  have H2 := Lib.hid (H0.out.below hB)
  have HB := Lib.hid hB
  clear hB hB2 HR HB1
  have c0 := H2.out.r.rp.c0
  have c2 := H2.out.r.rp.c2
  have hpl := lt_of_obj H2.out.r.rp.blk
  have k0 : ∀ z : Wld (fun x => Below w2.heap.size w2 x), z.w.cell? ⟨pr, 0, none⟩ = some (.int .u64 S.tick) := fun z => (z.ok.cell (p := ⟨pr, 0, none⟩) hpl).trans c0
  have k2 : ∀ z : Wld (fun x => Below w2.heap.size w2 x), z.w.cell? ⟨pr, 2, none⟩ = some (.slice qa S.ls.length qc) := fun z => (z.ok.cell (p := ⟨pr, 2, none⟩) hpl).trans c2
  have HT : Hid (∀ z : Wld (fun x => Below w2.heap.size w2 x), Calls Try.prog 17 #[.pointer (some ⟨p, 0, none⟩)] z.w fun e w' => e = .returned (.int .u64 S.tick) ∧ w' = z.w) := Lib.hid fun z => Tick_is (H2.out.m.is.below z.ok)
  have HS1 : Hid (∀ z : Wld (fun x => Below w2.heap.size w2 x), Calls Try.prog 24 #[.pointer (some ⟨p, 0, none⟩), .int .i64 (-1)] z.w fun e w' => e = .returned (.agg #[.int .u64 0, .int .u64 0, .int .u64 0, .int .u64 0]) ∧ Below z.w.heap.size z.w w') := Lib.hid fun z => Stat_none (H2.out.m.is.below z.ok) (by omega)
  have HS2 : Hid (∀ z : Wld (fun x => Below w2.heap.size w2 x), Calls Try.prog 24 #[.pointer (some ⟨p, 0, none⟩), .int .i64 (S.ls.length : Nat)] z.w fun e w' => e = .returned (.agg #[.int .u64 0, .int .u64 0, .int .u64 0, .int .u64 0]) ∧ Below z.w.heap.size z.w w') := Lib.hid fun z => Stat_none (H2.out.m.is.below z.ok) (by omega)
  have HQ1 : Hid (∀ z : Wld (fun x => Below w2.heap.size w2 x), Calls Try.prog 15 #[.pointer (some ⟨p, 0, none⟩), .int .i64 (-1)] z.w fun e w' => e = .returned (.slice none 0 0) ∧ w' = z.w) := Lib.hid fun z => Queued_none (H2.out.m.is.below z.ok) (by omega)
  have HQ2 : Hid (∀ z : Wld (fun x => Below w2.heap.size w2 x), Calls Try.prog 15 #[.pointer (some ⟨p, 0, none⟩), .int .i64 (S.ls.length : Nat)] z.w fun e w' => e = .returned (.slice none 0 0) ∧ w' = z.w) := Lib.hid fun z => Queued_none (H2.out.m.is.below z.ok) (by omega)
  haveI hne : Nonempty (Wld (fun x => Below w2.heap.size w2 x)) := ⟨⟨w2, Below.refl _ _⟩⟩
  generalize S.next.at' = nat at *
  generalize S.next.ok = nok at *
  clear c0 c2
  go_wp2_with fail
  refine region_class (fun x => Below w2.heap.size w2 x) (by kernel_rfl) (by kernel_rfl) (Below.refl _ _).drew ?_
  repeat (go_big_quiet_step ((rename_i z; first
    | (go_at_call 17; with_reducible refine Calls.mono (HT.out z) ?_; intro e w' h; obtain ⟨he, hw⟩ := h; exact ⟨he, z, hw⟩)
    | (go_at_call 24; first
        | (with_reducible refine Calls.mono (HS1.out z) ?_; intro e w' h; obtain ⟨he, hb⟩ := h; exact ⟨he, ⟨w', z.ok.trans (hb.mono z.ok.size)⟩, rfl⟩)
        | (with_reducible refine Calls.mono (HS2.out z) ?_; intro e w' h; obtain ⟨he, hb⟩ := h; exact ⟨he, ⟨w', z.ok.trans (hb.mono z.ok.size)⟩, rfl⟩))
    | (go_at_call 15; first
        | (with_reducible refine Calls.mono (HQ1.out z) ?_; intro e w' h; obtain ⟨he, hw⟩ := h; exact ⟨he, z, hw⟩)
        | (with_reducible refine Calls.mono (HQ2.out z) ?_; intro e w' h; obtain ⟨he, hw⟩ := h; exact ⟨he, z, hw⟩)))))
  refine wpQuiet_nil ?_
  intro w3 hB3
  have HB3 := Lib.hid (HB.out.trans (hB3.mono HB.out.size))
  clear k0 k2 HT HS1 HS2 HQ1 HQ2 hne hB3 H2 HB hpl
  go_wp2_with fail
  go_loopw [9] (SiRel w S.ls.length) (fun i _ => S.ls.length - (intOf i).toNat)
  case atStart => exact ⟨0, rfl, Nat.zero_le _, HB3.out⟩
  case round =>
    obtain ⟨c, rfl, hc, hB⟩ := hrel
    have H4 := Lib.hid (H0.out.below hB)
    have c2 := H4.out.r.rp.c2
    have HBr := Lib.hid hB
    by_cases hlt : c < S.ls.length
    · obtain ⟨L, hL⟩ : ∃ L, S.ls[c]? = some L := ⟨_, List.getElem?_eq_getElem hlt⟩
      have hci : (c : Int) < (S.ls.length : Int) := by omega
      have HST := Lib.hid (Stat_some H4.out.m.is hL)
      unfold ptr at HST
      have HL := Lib.hid hL
      clear hL hB
      go_wp2_with fail
      refine HST.out.mono ?_
      rintro e w5 ⟨rfl, hB5⟩
      go_wp2_with fail
      have hA : Below w5.heap.size w5 (w5.alloc (.cells #[.int .u64 L.off, .int .u64 L.drp, .int .u64 L.out, .int .u64 L.byt] 67)) := (Below.refl _ _).alloc (Nat.le_refl _) _
      have gx := alloc_block_new w5 (.cells #[.int .u64 L.off, .int .u64 L.drp, .int .u64 L.out, .int .u64 L.byt] 67)
      have H6 := Lib.hid ((H4.out.below hB5).below hA)
      have HB6 := Lib.hid ((HBr.out.trans (hB5.mono HBr.out.size)).trans (hA.mono (Nat.le_trans HBr.out.size hB5.size)))
      clear hA hB5 HST
      generalize w5.heap.size = bx at *
      generalize w5.alloc (.cells #[.int .u64 L.off, .int .u64 L.drp, .int .u64 L.out, .int .u64 L.byt] 67) = w6 at *
      obtain ⟨y, hy, hrl⟩ := H6.out.r.q HL.out
      obtain ⟨gb, gq, gs, cb, cq, cs, -, eq, es, -, hq, hs, -, hql, hsl⟩ := H6.out.r.cells HL.out hy
      injection eq with e1 e2 e3
      subst e1 e3
      clear e2
      have c3 := H6.out.r.rp.c3
      rw [es] at c3
      clear es
      have hpl := lt_of_obj H6.out.r.rp.blk
      have hbl := lt_of_obj gx
      have hcz : ∀ (b j : Nat) (u : Value), b < w6.heap.size → w6.cell? ⟨b, j, none⟩ = some u → ∀ z : Wld (fun x => Below w6.heap.size w6 x), z.w.cell? ⟨b, j, none⟩ = some u := fun b j u h1 h2 z => (z.ok.cell (p := ⟨b, j, none⟩) h1).trans h2
      have k3 := hcz _ _ _ hpl c3
      have x0 := hcz _ _ _ hbl (show w6.cell? ⟨bx, 0, none⟩ = some (.int .u64 L.off) from cell_of_block gx 0)
      have x1 := hcz _ _ _ hbl (show w6.cell? ⟨bx, 1, none⟩ = some (.int .u64 L.drp) from cell_of_block gx 1)
      have x2 := hcz _ _ _ hbl (show w6.cell? ⟨bx, 2, none⟩ = some (.int .u64 L.out) from cell_of_block gx 2)
      have x3 := hcz _ _ _ hbl (show w6.cell? ⟨bx, 3, none⟩ = some (.int .u64 L.byt) from cell_of_block gx 3)
      have s0 := hcz gs (c * 4) _ hsl (show w6.cell? ⟨gs, c * 4, none⟩ = some (.int .u64 L.off) from hs 0 (by decide))
      have s1 := hcz gs (c * 4 + 1) _ hsl (show w6.cell? ⟨gs, c * 4 + 1, none⟩ = some (.int .u64 L.drp) from hs 1 (by decide))
      have s2 := hcz gs (c * 4 + 2) _ hsl (show w6.cell? ⟨gs, c * 4 + 2, none⟩ = some (.int .u64 L.out) from hs 2 (by decide))
      have s3 := hcz gs (c * 4 + 3) _ hsl (show w6.cell? ⟨gs, c * 4 + 3, none⟩ = some (.int .u64 L.byt) from hs 3 (by decide))
      have q0 : w6.cell? ⟨gq, c * 4, none⟩ = some y := hq 0 (by decide)
      have HY := Lib.hid (And.intro hrl q0)
      haveI hne : Nonempty (Wld (fun x => Below w6.heap.size w6 x)) := ⟨⟨w6, Below.refl _ _⟩⟩
      have hcb : (c : Int) < (S.ls.length : Int) := hci
      clear hcz hq hs hrl hy gx c3 q0 c2
      generalize L.off = lo at *
      generalize L.drp = ld at *
      generalize L.out = lu at *
      generalize L.byt = lb at *
      refine region_class (fun x => Below w6.heap.size w6 x) (by kernel_rfl) (by kernel_rfl) (Below.refl _ _).drew ?_
      repeat (go_big_quiet_step (fail))
      refine wpQuiet_nil ?_
      intro w7 hB7
      have H7 := Lib.hid (H6.out.below hB7)
      have HB7 := Lib.hid (HB6.out.trans (hB7.mono HB6.out.size))
      have HRL := Lib.hid (And.intro (HY.out.1.below hB7) ((hB7.cell (p := ⟨gq, c * 4, none⟩) hql).trans HY.out.2))
      have hql7 : gq < w7.heap.size := Nat.lt_of_lt_of_le hql hB7.size
      have hpl7 : pr < w7.heap.size := Nat.lt_of_lt_of_le hpl hB7.size
      clear x0 x1 x2 x3 s0 s1 s2 s3 k3 hB7 hne HY H6 HB6 hpl hql hsl hbl
      go_wp2_with fail
      go_loopw [11] (SiRel w7 2) (fun t _ => 2 - (intOf t).toNat)
      case atStart => exact ⟨0, rfl, Nat.zero_le _, Below.refl _ _⟩
      case round =>
        obtain ⟨t, rfl, htl, hB8⟩ := hrel
        by_cases ht2 : t < 2
        · have hti : (t : Int) < 2 := by omega
          have H8 := Lib.hid (H7.out.below hB8)
          have HQ := Lib.hid (Queued_some H8.out.m.is HL.out)
          unfold ptr at HQ
          have HB8 := Lib.hid hB8
          clear hB8
          go_wp2_with fail
          refine HQ.out.mono ?_
          rintro e w9 ⟨v2, ys, F, rfl, hNI, hB9⟩
          have H9 := Lib.hid (H8.out.below hB9)
          have c2 := H9.out.r.rp.c2
          have hrl9 := (HRL.out.1.below HB8.out).below hB9
          have q0 := (((HB8.out.trans (hB9.mono HB8.out.size)).cell (p := ⟨gq, c * 4, none⟩) hql7)).trans HRL.out.2
          obtain ⟨ya, yc, ey⟩ := hrl9.shape
          subst ey
          have hll : L.Q.L.length ≤ 100000 := by have := (HS.out.ln L (List.mem_of_getElem? HL.out)).out; omega
          have HSI := Lib.hid (sameItems_is hNI hrl9 hll)
          obtain ⟨va, vc, ev⟩ := own_shape hNI.row
          subst ev
          have HNI := Lib.hid (And.intro hNI hB9)
          clear hNI hB9 hrl9 HQ
          go_wp2_with fail
          refine HSI.out.mono ?_
          rintro e w10 ⟨rfl, hB10⟩
          have hN10 : NewI w9.heap.size w10 F (.slice va L.Q.L.length vc) ys L.Q.L → True := fun _ => trivial
          have hNb := HNI.out.1.keep' hB10
          have HN10 := Lib.hid hNb
          have HB10 := Lib.hid ((HNI.out.2).trans (hB10.mono HNI.out.2.size))
          clear hB10 hN10 hNb HSI c2 q0
          go_wp2_with fail
          go_loopw [13] (ZiRel w10 F (.slice va L.Q.L.length vc) ys L.Q.L) (fun i _ => L.Q.L.length - (intOf i).toNat)
          case atStart => exact ⟨0, rfl, Nat.zero_le _, HN10.out.mid⟩
          case round =>
            obtain ⟨i, rfl, hi, hM⟩ := hrel
            by_cases hil : i < L.Q.L.length
            · obtain ⟨x, hx⟩ : ∃ x, L.Q.L[i]? = some x := ⟨_, List.getElem?_eq_getElem hil⟩
              obtain ⟨g, cap, cur, ev, hgb, hnc, hcm, hcs, hcell⟩ := hM.blk (by omega)
              injection ev with ev1 ev2 ev3
              subst ev1 ev3
              clear ev2
              obtain ⟨yv, hyv⟩ := HN10.out.cs i x hx
              have e2 := (hcell (i * 3 + 2) (by omega) (by omega)).trans hyv.c2
              have hds := hM.ds i x yv (Nat.le_refl _) hx hyv.c2
              obtain ⟨za, zc, ez⟩ := own_shape hyv.d
              subst ez
              have hii : (i : Int) < (L.Q.L.length : Int) := by omega
              have HSP := Lib.hid (spoil_is hds)
              have HX := Lib.hid (And.intro hM (And.intro hx hyv.c2))
              clear hM hx hcell hyv hds hgb hnc hcm hcs
              go_wp2_with fail
              refine HSP.out.mono ?_
              rintro e w11 ⟨⟨rv, rfl⟩, hO11, hT11⟩
              have hM11 := HX.out.1.spoil HN10.out.st HX.out.2.1 HX.out.2.2 hO11 hT11
              obtain ⟨g9, cap9, cur9, ev9, hb9, hnc9, hcm9, hcs9, -⟩ := hM11.blk (by omega)
              have HEV := Lib.hid ev9
              injection ev9 with e1 e2' e3
              injection e1 with e1
              injection e1 with e1
              subst e1 e3
              have hfit : i * 3 + 3 ≤ cur9.size := by rw [hcs9]; omega
              have HX9 := Lib.hid (And.intro hM11 hb9)
              clear hO11 hT11 hM11 hb9 hcm9 hcs9 hnc9 e2' HSP e2
              go_wp2_with (first | (refine wpList_store_at rfl 34 (.tmp 137) (.tmp 136) rfl g (i * 3) (.agg #[.int .u64 0, .int .i64 0, .slice none 0 0]) rfl rfl 34 cur9 HX9.out.2 [.int .u64 0, .int .i64 0, .slice none 0 0] rfl (by kernel_rfl) hfit (by intro u hu; simp at hu; rcases hu with rfl | rfl | rfl <;> rfl) ?_))
              intro w12 hS12
              have hM12 := HX9.out.1.store (vs := [.int .u64 0, .int .i64 0, .slice none 0 0]) HN10.out.st hil rfl HX9.out.2 rfl (by simpa using hS12)
              have HR : Hid (ZiRel w10 F (.slice (some ⟨g, 0, none⟩) L.Q.L.length vc) ys L.Q.L (.int .i64 (i + 1 : Nat)) w12) := Lib.hid ⟨i + 1, rfl, hil, hM12⟩
              clear hS12 hM12 HX9 HEV
              go_wp2_with fail
              go_roundw
              case rel => exact HR.out
              case measure => simp [intOf]; omega
            · have hii : ¬ (i : Int) < (L.Q.L.length : Int) := by omega
              have hOz := hM.only
              have HR : Hid (SiRel w7 2 (.int .i64 (t + 1 : Nat)) wr) := Lib.hid ⟨t + 1, rfl, by omega, by
                have h1 := HB8.out.size
                refine (HB8.out.trans (HB10.out.mono h1)).trans (hOz.below (by have := HB10.out.size; omega) (fun k hk e => ?_))
                rcases e with e | e
                · have := HN10.out.ge k e; omega
                · have := own_ge HN10.out.row k e; omega⟩
              clear hM hOz
              go_wp2_with fail
              go_roundw
              case rel => exact HR.out
              case measure => simp [intOf]; omega
        · have hti : ¬ (t : Int) < 2 := by omega
          have HR : Hid (SiRel w S.ls.length (.int .i64 (c + 1 : Nat)) wr) := Lib.hid ⟨c + 1, rfl, hlt, HB7.out.trans (hB8.mono HB7.out.size)⟩
          clear hB8
          go_wp2_with fail
          go_roundw
          case rel => exact HR.out
          case measure => simp [intOf]; omega
    · have hci : ¬ (c : Int) < (S.ls.length : Int) := by omega
      clear hB
      go_wp2_with fail
      go_ret
      exact ⟨rfl, HBr.out⟩
end Go.Proofs.Ythipfcmjpgbemaa

/- RuleLeaves, walked. -/
import Derived.Test.YtcbkcalemfminaaRul
namespace Go.Proofs.Ytcbkcalemfminaa
open Go.RowKit
attribute [local go_sem ↓] load_ad load_pf load_ru load_ky load_bs build_pf build_ru build_cl build_ky rows_ru

set_option maxRecDepth 100000 in
set_option maxHeartbeats 20000000 in
theorem leaves_any (deny : Bool) (cls at_ : Int) {lv : Value} {l : List Ru} {k : Ky} (w : World) (hl : Rules w lv l) (hZ : RZ lv) (hk : k.Ok) :
    Calls Try.prog 3 #[.bool deny, .int .i64 cls, lv, .agg k.arr, .int .i64 at_] w fun e w' => e = .returned (.bool true) ∧ Below w.heap.size w w' := by
  obtain ⟨la, lc, rfl, _⟩ := id hl
  have HL := Lib.hid hl
  clear hl
  go_enter Try.func3, Try.ntmps3
  go_upto_region 1 with (fail)
  have hB : Below w.heap.size w (w.alloc (.cells k.arr 28)) := (Below.refl _ _).alloc (Nat.le_refl _) _
  have g0 := alloc_block_new w (.cells k.arr 28)
  generalize w.alloc (.cells k.arr 28) = w1 at *
  have L1 : LSt w w1 w.heap.size k := ⟨hB, ⟨hk, lt_of_obj g0, range_block g0⟩, Nat.le_refl _⟩
  generalize w.heap.size = b at *
  have H1 := Lib.hid L1
  have hbl := L1.key.lt
  have hl1 := HL.out.below L1.bel
  clear hB g0 L1
  by_cases h20 : 20 < l.length
  · as_aux_lemma =>
    go_wp2_with fail
    refine (works_any _).mono ?_
    rintro e w2 ⟨rfl, hB2⟩
    go_wp2_with fail
    go_ret
    exact ⟨rfl, (H1.out.below hB2).bel⟩
  · go_wp2_with fail
    refine (new_is deny cls hl1 (by omega)).mono ?_
    intro e w2 hN
    by_cases hbad : (!(others deny cls).right || l.any fun r => !r.right) = true
    · as_aux_lemma =>
      have he : e = .returned (.tuple #[.pointer none, .int .i64 2]) ∧ Below w1.heap.size w1 w2 := by
        obtain ⟨hB, ⟨h1, _⟩ | ⟨_, _, he⟩ | ⟨_, h1, _⟩⟩ := hN
        · omega
        · exact ⟨he, hB⟩
        · rw [hbad] at h1; exact absurd h1 (by decide)
      obtain ⟨rfl, hB2⟩ := he
      have HB2 := Lib.hid hB2
      clear hN hB2 hbad
      go_wp2_with fail
      refine (works_any _).mono ?_
      rintro e w3 ⟨rfl, hB3⟩
      go_wp2_with fail
      go_ret
      exact ⟨rfl, ((H1.out.below HB2.out).below hB3).bel⟩
    · have hbad' : (!(others deny cls).right || l.any fun r => !r.right) = false := by simpa using hbad
      obtain ⟨p, rfl, hC2, hB2⟩ := new_ok hN (by omega) hbad'
      have hor : (others deny cls).right = true := by
        cases h : (others deny cls).right
        · rw [h] at hbad'; simp at hbad'
        · rfl
      have hlr : ∀ r ∈ l, r.right = true := by
        rw [hor] at hbad'
        have : (l.any fun r => !r.right) = false := by simpa using hbad'
        intro r hr
        have := List.any_eq_false.1 this r hr
        simpa using this
      have hlok := hl1.ok
      obtain ⟨R, hR⟩ : ∃ R, told l (others deny cls) k = R := ⟨_, rfl⟩
      have hRr : R.right = true := by rw [← hR]; exact told_right hlr hor
      obtain ⟨n, f, hnf, hn0, hn8, hff⟩ := told_shape hRr
      have HP := Lib.hid (And.intro hor (And.intro hlr (And.intro hlok (And.intro hR hnf))))
      have HC2 := Lib.hid hC2
      have L2 := H1.out.below hB2
      have lk := row_ky hk L2.key.rng
      have H2 := Lib.hid L2
      have hs12 := hB2.size
      have hb1 := hbl
      clear hN hbad hbad' hC2 hB2 hor hlr hlok hR hRr hnf L2 hl1
      go_wp2_with fail
      refine (class_is HC2.out hk (by omega) hs12).mono ?_
      rintro e w3 ⟨he, hC3, hO3⟩
      rw [HP.out.2.2.2.1, HP.out.2.2.2.2] at he
      subst he
      have L3 : LSt w w3 b k := H2.out.only hO3 (fun e => by omega) (fun j e => by have := H1.out.bel.size; omega)
      have hl3 := HL.out.below L3.bel
      have H3 := Lib.hid (And.intro L3 hC3)
      have lk3 := row_ky hk L3.key.rng
      clear L3 hC3 hO3 lk H2 HC2
      go_upto_region 7 with (fail)
      go_cut [80] (fun v w' => v = .bool false ∧ w' = w3)
      case first =>
        as_aux_lemma =>
        have q1 : decide (n < 0) = false := decide_eq_false (by omega)
        have q2 : decide (8 ≤ n) = false := decide_eq_false (by omega)
        rcases hff with rfl | ⟨rfl, rfl⟩
        all_goals
          go_wp2_with fail
          go_meet
          case rel => exact ⟨by first | rfl | simp, rfl⟩
      case rest =>
        obtain ⟨rfl, rfl⟩ := hcut
        obtain ⟨w3, rfl⟩ : ∃ wo : World, wo = wc := ⟨_, rfl⟩
        go_wp2_with fail
        refine (dead_is H3.out.2 (by omega)).mono ?_
        rintro e w4 ⟨dv, rfl, hd4, hB4⟩
        obtain ⟨da, dc, rfl⟩ := own_shape hd4
        have L4 := H3.out.1.below hB4
        have hl4 := HL.out.below L4.bel
        have H4 := Lib.hid (And.intro L4 hd4)
        have hdl : (deads l).length ≤ l.length := deadsTo_len l l.length
        clear L4 hd4 hB4 H3 hl3 lk3
        generalize hds : deads l = ds at *
        have HDS := Lib.hid hds
        clear hds
        go_wp2_with fail
        go_loopw [17, 16] (SRel w4 l ds) (fun i _ _ => l.length - (intOf i).toNat)
        case atStart => exact ⟨0, rfl, Nat.zero_le _, World.ownsRow_nil _ _ _ _, Below.refl _ _⟩
        case round =>
          obtain ⟨i, rfl, hi, hrow, hB⟩ := hrel
          by_cases hil : i < l.length
          · as_aux_lemma =>
            obtain ⟨sa, sc, rfl⟩ := own_shape hrow
            have HS := Lib.hid (And.intro hrow hB)
            have hBs := hB.size
            clear hrow hB
            obtain ⟨wi, rfl⟩ : ∃ wo : World, wo = wr := ⟨_, rfl⟩
            go_wp2_with fail
            go_loopw [19, 18] (GRel ds i wi) (fun q _ _ => ds.length - (intOf q).toNat)
            case atStart => exact ⟨0, rfl, Nat.zero_le _, rfl, rfl⟩
            case round =>
              obtain ⟨q, rfl, hq, rfl, rfl⟩ := hrel
              by_cases hqd : q < ds.length
              · obtain ⟨x, hx⟩ : ∃ x, ds[q]? = some x := ⟨_, List.getElem?_eq_getElem hqd⟩
                obtain ⟨dg, rfl, hdg, hdc⟩ := own_int_at H4.out.2 hx
                have y0 : wr.cell? ⟨dg, q, none⟩ = some (.int .i64 (x : Nat)) := (HS.out.2.cell (p := ⟨dg, q, none⟩) hdg).trans hdc
                have hqi : (q : Int) < (ds.length : Int) := by omega
                have HT := Lib.hid (take_contains (k := i) hx)
                have e1 : ((x : Int) == (i : Int)) = (x == i) := by rw [Bool.eq_iff_iff]; simp; omega
                clear hx hdc
                cases hgg : (ds.take q).contains i
                all_goals
                  have HG := Lib.hid hgg
                  clear hgg
                  go_wp2_with fail
                  go_roundw
                  case rel => exact ⟨q + 1, by go_num, hqd, by rw [HT.out, HG.out]; first | rfl | (rw [← e1]; rfl) | simp, rfl⟩
                  case measure => simp [intOf]; omega
              · obtain rfl : q = ds.length := by omega
                rw [List.take_length]
                obtain ⟨r, hri⟩ : ∃ r, l[i]? = some r := ⟨_, List.getElem?_eq_getElem hil⟩
                have HLS := Lib.hid (livesTo_succ l ds i r hri)
                cases hgg : ds.contains i with
                | true =>
                  have HN : Hid (SRel w4 l ds (.int .i64 (i + 1 : Nat)) (.slice sa (livesTo l ds i).length sc) wr) := ⟨i + 1, rfl, hil, by rw [HLS.out, if_pos hgg, List.append_nil]; exact HS.out.1, HS.out.2⟩
                  clear hgg hri
                  go_wp2_with fail
                  go_roundw
                  case rel => exact HN.out
                  case measure => simp [intOf]; omega
                | false =>
                  have hlw := HL.out.below (H4.out.1.below HS.out.2).bel
                  obtain ⟨_, _, e1, _, hrw⟩ := hlw
                  injection e1 with e1 _ e2
                  subst e1
                  subst e2
                  obtain ⟨rb, ro, rfl, hrb, hAr⟩ := hrw (by omega)
                  obtain ⟨hrok, hrr⟩ := hAr i r hri
                  have lR := row_ru hrok hrr
                  have hbt := built_rus hrok
                  have hii : (i : Int) < (l.length : Int) := by omega
                  have hls := livesTo_len l ds i
                  obtain ⟨i0, hi0, hz0, hz1, hz2⟩ := info_parts info_ru
                  have HG := Lib.hid hgg
                  clear hgg hAr hri hrr
                  go_wp2_with (first | (at_builtin; refine wpList_append_own _ rfl (.tmp 106) (.tmp 111) 22 rfl w4.heap.size 43 i0 _ 44 104 Try.underlying22 hi0 hz0 hz1 hz2 rfl (by decide) (.slice sa (livesTo l ds i).length sc) (livesTo l ds i).length (rsCells (livesTo l ds i)) rfl (HS.out.1.alloc _) ⟨wr.heap.size, 0, none⟩ 1 1 r.cs rfl (by rw [hrok.len]) (fun j u hj => by rw [Addr.add_lit]; exact range_block (alloc_block_new wr (.cells r.arr 43)) j u hj) r.one (by unfold maxLen; omega) (by omega) (by simp; omega) ?_))
                  intro v' w' ho hg _
                  obtain ⟨va, vc, rfl⟩ := own_shape ho
                  have hB' : Below w4.heap.size w4 w' := HS.out.2.trans (((Below.only ((Below.refl wr.heap.size wr).alloc (Nat.le_refl _) (.cells r.arr 43)) (fun q => (Value.slice sa (livesTo l ds i).length sc).ownBlock = some q)).grown hg (fun q hq _ => hq)).below (B := w4.heap.size) hBs (fun q hq e => by have := own_ge HS.out.1 q e; omega))
                  have HN : Hid (SRel w4 l ds (.int .i64 (i + 1 : Nat)) (.slice va ((livesTo l ds i).length + 1) vc) w') := ⟨i + 1, rfl, hil, by
                    rw [HLS.out, if_neg (by rw [HG.out]; decide)]
                    show w'.ownsRow _ _ 44 _ _ (rsCells (livesTo l ds i ++ [r]))
                    rw [List.length_append, rsCells_app]
                    simpa [rsCells] using ho, hB'⟩
                  clear ho hg hB' hi0 hz0 hz1 hz2 lR hbt
                  go_wp2_with fail
                  go_roundw
                  case rel => exact HN.out
                  case measure => simp [intOf]; omega
          · obtain rfl : i = l.length := by omega
            obtain ⟨sa, sc, rfl⟩ := own_shape hrow
            obtain ⟨W5, rfl⟩ : ∃ wo : World, wo = wr := ⟨_, rfl⟩
            have L5 := H4.out.1.below hB
            have hsr := hrow.rules (fun r hr => HP.out.2.2.1 r (livesTo_mem hr))
            have hrs : ∀ r ∈ l, r.right = true ∧ r.shi ≤ 65535 ∧ r.dhi ≤ 65535 := fun r hr => ⟨HP.out.2.1 r hr, by have := (HP.out.2.2.1 r hr).p; omega⟩
            have hT1 : told (livesTo l ds l.length) (others deny cls) k = R := by rw [← HDS.out, told_lives hrs]; exact HP.out.2.2.2.1
            have hSr : ∀ r ∈ livesTo l ds l.length, r.right = true := fun r hr => HP.out.2.1 r (livesTo_mem hr)
            have hSl := livesTo_len l ds l.length
            have hl5 := HL.out.below L5.bel
            have H5 := Lib.hid (And.intro L5 (And.intro hsr (And.intro hT1 hSr)))
            clear hrow hB L5 hsr hrs hT1 hSr H4 HDS
            generalize livesTo l ds l.length = S at *
            go_wp2_with (first | (at_builtin; refine wpList_append_rules rfl (.tmp 113) (.tmp 114) rfl rfl rfl hl5 hZ (by omega) ?_))
            intro v6 w6 ho6 hB6
            obtain ⟨ma, mc, rfl⟩ := own_shape ho6
            go_wp2_with fail
            refine (any_is _).mono ?_
            rintro e w7 ⟨rfl, hB7⟩
            have ho7 := own_kept ho6 hB7
            have hBW7 := hB6.trans (hB7.mono hB6.size)
            have H7 := Lib.hid (And.intro ho7 (And.intro hBW7 (own_lt ho7)))
            have hs7 := hBW7.size
            clear ho6 hB6 hB7 ho7 hBW7
            go_wp2_with (first | (refine wpList_store_blk rfl 43 (.tmp 21) (.tmp 116) rfl w7.heap.size Ru.any.arr rfl rfl 43 Ru.zero.arr (alloc_block_new w7 (.cells Ru.zero.arr 43)) (by kernel_rfl) rfl (by kernel_rfl) ?_))
            intro w8 hS
            have hB8 : Below w7.heap.size w7 w8 := ((Below.refl _ _).alloc (Nat.le_refl _) (.cells Ru.zero.arr 43)).trans (hS.only.below (by simp) (fun k hk e => by omega))
            have g0 := hS.blk
            have ho8 := own_kept H7.out.1 hB8
            have hBW8 := H7.out.2.1.trans (hB8.mono H7.out.2.1.size)
            have H8 := Lib.hid (And.intro g0 (And.intro ho8 (And.intro hBW8 H7.out.2.2)))
            generalize w7.heap.size = c8 at *
            have c0 : w8.cell? ⟨c8, 42, none⟩ = some (.bool false) := cell_of_block g0 42
            have c1 : w8.cell? ⟨c8, 43, none⟩ = some (.int .i64 0) := cell_of_block g0 43
            have f0 : w8.frozen? ⟨c8, 42, none⟩ = false := free_of_block g0 42
            have f1 : w8.frozen? ⟨c8, 43, none⟩ = false := free_of_block g0 43
            clear hS hB8 g0 ho8 hBW8 H7
            go_upto_if 120 with (fail)
            go_cut [122] (fun _ w' => w'.heap[c8]? = some (.cells (others deny cls).arr 43 (0, 0)) ∧ Only (fun q => q = c8) w8 w')
            case first =>
              as_aux_lemma =>
              cases deny
              · go_wp2_with fail
                go_meet
                case rel => exact ⟨setCell_block (setCell_block H8.out.1 42 (.bool false)) 43 (.int .i64 cls), Only.setCell (S := fun q => q = c8) (p := ⟨c8, 43, none⟩) (Only.setCell (S := fun q => q = c8) (p := ⟨c8, 42, none⟩) (Only.refl _ w8) (fun _ => rfl) _) (fun _ => rfl) _⟩
              · go_wp2_with fail
                go_meet
                case rel => exact ⟨setCell_block H8.out.1 42 (.bool true), Only.setCell (S := fun q => q = c8) (p := ⟨c8, 42, none⟩) (Only.refl _ w8) (fun _ => rfl) _⟩
            case rest =>
              obtain ⟨g9, hO9⟩ := hcut
              obtain ⟨w9, rfl⟩ : ∃ wo : World, wo = wc := ⟨_, rfl⟩
              have ho9 := own_only H8.out.2.1 hO9 (fun q hq e => by have := H8.out.2.2.2 q hq; omega)
              have hB9 := H8.out.2.2.1.trans (hO9.below H8.out.2.2.1.size (fun q hq e => by omega))
              have hc9 := lt_of_obj g9
              have H9 := Lib.hid (And.intro ho9 (And.intro hB9 (range_block g9)))
              have HG9 := Lib.hid (And.intro (own_ge ho9) H8.out.2.2.2)
              clear g9 hO9 ho9 hB9 H8 c0 c1 f0 f1
              go_upto_region 27 with (fail)
              go_cut [20] (fun v w' => ∃ va vc, v = .slice va (l.length + 2) vc ∧ w'.ownsRow 0 43 44 v (l ++ [others deny cls, Ru.any]).length (rsCells (l ++ [others deny cls, Ru.any])) ∧ Below W5.heap.size W5 w')
              case first =>
                as_aux_lemma =>
                have hOok := others_ok deny cls
                have hlen2 := pair_len hOok
                have hbp := built_pair hOok
                have hLo : ∀ w' : World, w'.rangeAt c8 0 (others deny cls).cs → (loadRow 43 (.pointer (some ⟨c8, 0, none⟩))).run Try.prog w' = .ok (.agg (others deny cls).arr) w' := fun w' h => row_ru hOok h
                clear HP
                generalize others deny cls = O at *
                obtain ⟨i0, hi0, hz0, hz1, hz2⟩ := info_parts info_ru
                go_region_held3 (fun w' => w'.rangeAt c8 0 O.cs) (first | assumption | exact H9.out.2.2 | exact hrA | exact hrF | exact range_alloc hrA hcA _)
                  (first
                    | (go_at_call 10; refine Calls.mono (any_is _) ?_
                       rintro e wA ⟨rfl, hBA⟩
                       have hBA' : Below w9.heap.size w9 wA := (Below.refl w9.heap.size w9).drew.trans hBA
                       have hrA : wA.rangeAt c8 0 O.cs := range_below H9.out.2.2 hc9 hBA'
                       have hcA : c8 < wA.heap.size := Nat.lt_of_lt_of_le hc9 hBA'.size
                       have HOA := Lib.hid (own_kept H9.out.1 hBA')
                       have HBA := Lib.hid (H9.out.2.1.trans (hBA'.mono H9.out.2.1.size))
                       clear hBA hBA')
                    | (refine step_append_row rfl (.tmp 123) (.tmp 126) 22 rfl 43 i0 _ 44 104 Try.underlying22 hi0 hz0 hz1 hz2 rfl (by decide) (.slice ma l.length mc) l.length (rsCells l) rfl ((own_raise HOA.out (fun _ _ => Nat.zero_le _)).alloc _) ⟨wA.heap.size, 0, none⟩ 2 2 (rsCells [O, Ru.any]) rfl hlen2 (fun j u hj => by rw [Addr.add_lit]; exact range_block (alloc_block_new wA (.cells (rsCells [O, Ru.any]).toArray 43)) j u hj) rsCells_one (by unfold maxLen; omega) (by omega) ?_
                       intro v' w' ho' hg' _
                       obtain ⟨va, vc, rfl⟩ := own_shape ho'
                       have hOn := (Below.only ((Below.refl wA.heap.size wA).alloc (Nat.le_refl _) (.cells (rsCells [O, Ru.any]).toArray 43)) (fun q => (Value.slice ma l.length mc).ownBlock = some q)).grown hg' (fun q hq _ => hq)
                       have hrF : w'.rangeAt c8 0 O.cs := fun j u hj => (World.cell?_of_block (a := ⟨c8, 0 + j, none⟩) (hOn.block c8 hcA (fun e => by have := HG9.out.2 _ e; omega))).trans (hrA j u hj)
                       have HOF := Lib.hid (And.intro ho' (HBA.out.trans (hOn.below HBA.out.size (fun q hq e => by have := HG9.out.1 q e; omega))))
                       clear ho' hg' hOn))
                all_goals
                  go_wp2_with fail
                  go_meet
                  case rel => first | exact ⟨va, vc, rfl, by simpa [rsCells] using HOF.out.1, HOF.out.2⟩ | exact ⟨va, vc, rfl, by simpa [rsCells] using HOF.out.1, HOF.out.2.drew⟩
              case rest =>
                obtain ⟨va, vc, rfl, ho10, hB10⟩ := hcut
                obtain ⟨w10, rfl⟩ : ∃ wo : World, wo = wc := ⟨_, rfl⟩
                have hmok : ∀ r ∈ l ++ [others deny cls, Ru.any], r.Ok := fun r hr => by
                  rcases List.mem_append.1 hr with h | h
                  · exact HP.out.2.2.1 r h
                  · simp at h
                    rcases h with rfl | rfl
                    · exact others_ok _ _
                    · exact Ru.any_ok
                have hmr : ∀ r ∈ l ++ [others deny cls, Ru.any], r.right = true := fun r hr => by
                  rcases List.mem_append.1 hr with h | h
                  · exact HP.out.2.1 r h
                  · simp at h
                    rcases h with rfl | rfl
                    · exact HP.out.1
                    · exact any_right
                have hb10 : Rules w10 (.slice va (l.length + 2) vc) (l ++ [others deny cls, Ru.any]) := OwnRules.rules (B := 0) ho10 hmok
                have hs10 := H5.out.2.1.below hB10
                have L10 := H5.out.1.below hB10
                have hT2 : told (l ++ [others deny cls, Ru.any]) (others (!deny) 0) k = R := (told_more HP.out.1 _ _).trans HP.out.2.2.2.1
                have hml : (l ++ [others deny cls, Ru.any]).length = l.length + 2 := by simp
                clear ho10 hmok
                generalize l ++ [others deny cls, Ru.any] = M at *
                have hbl10 := L10.key.lt
                have hw10 := L10.bel.size
                have H10 := Lib.hid (And.intro L10 (And.intro hb10 (And.intro hmr hT2)))
                clear hB10 L10 hT2 hmr hb10 H9 HG9
                go_wp2_with fail
                refine (new_is deny cls hs10 (by omega)).mono ?_
                intro e w11 hN
                obtain ⟨pa, rfl, hCa, hB11⟩ := new_rights hN (by omega) HP.out.1 H5.out.2.2.2
                have hb11 := H10.out.2.1.below hB11
                have H11 := Lib.hid (And.intro (H10.out.1.below hB11) hCa)
                have hs11 := hB11.size
                clear hN hCa hB11 hs10
                go_wp2_with fail
                refine (new_is (!deny) 0 hb11 (by omega)).mono ?_
                intro e w12 hN
                obtain ⟨pb, rfl, hCb, hB12⟩ := new_rights hN (by omega) (others_right0 _) H10.out.2.2.1
                have L12 := H11.out.1.below hB12
                have lk12 := row_ky hk L12.key.rng
                have H12 := Lib.hid (And.intro L12 (And.intro (H11.out.2.below hB12) hCb))
                have hs12' := hB12.size
                clear hN hCb hB12 L12 hb11 H11
                go_wp2_with fail
                refine (class_is H12.out.2.1 hk (by omega) (by omega)).mono ?_
                rintro e w13 ⟨he, _, hO13⟩
                rw [H5.out.2.2.1, HP.out.2.2.2.2] at he
                subst he
                have L13 := H12.out.1.only hO13 (fun e => by omega) (fun j e => by omega)
                have lk13 := row_ky hk L13.key.rng
                have H13 := Lib.hid (And.intro L13 (H12.out.2.2.only hO13 (fun q h1 h2 h3 => by omega)))
                have hs13 := hO13.size
                clear L13 hO13 H12 lk12
                go_wp2_with fail
                refine (class_is H13.out.2 hk (by omega) (by omega)).mono ?_
                rintro e w14 ⟨he, _, hO14⟩
                rw [H10.out.2.2.2, HP.out.2.2.2.2] at he
                subst he
                have L14 := H13.out.1.only hO14 (fun e => by omega) (fun j e => by omega)
                have H14 := Lib.hid L14
                clear L14 hO14 H13 lk13 H10 H5 hs13 hs12' hs11
                by_cases h2 : l.length < 2
                · as_aux_lemma =>
                  go_wp2_with fail
                  refine (works_any _).mono ?_
                  rintro e w15 ⟨rfl, hB15⟩
                  go_wp2_with fail
                  go_ret
                  exact ⟨rfl, (H14.out.below hB15).bel⟩
                · go_wp2_with fail
                  refine (pick_any at_ _ (by omega) (by omega) _).mono ?_
                  rintro e w15 ⟨m, rfl, hm, rfl⟩
                  obtain ⟨r, hr⟩ : ∃ r, l[m]? = some r := ⟨_, List.getElem?_eq_getElem (by omega)⟩
                  obtain ⟨s, hs⟩ : ∃ s, l[m + 1]? = some s := ⟨_, List.getElem?_eq_getElem (by omega)⟩
                  obtain ⟨_, _, e1, _, hrw⟩ := HL.out.below H14.out.bel
                  injection e1 with e1 _ e2
                  subst e1
                  subst e2
                  obtain ⟨rb, ro, rfl, hrb, hAr⟩ := hrw (by omega)
                  obtain ⟨hrok, hrr⟩ := hAr m r hr
                  obtain ⟨hsok, hsr⟩ := hAr (m + 1) s hs
                  have hky := H14.out.key.rng
                  have hm2 : m + 1 < l.length := by omega
                  have hmw : IntKind.i64.wrap ((m : Int) + 1) = (m : Int) + 1 := IntWalk.i64_in _ (by omega)
                  have hmi0 : (0 : Int) ≤ (m : Int) + 1 := by omega
                  have hmi1 : (m : Int) < (l.length : Int) := by omega
                  have hmi2 : (m : Int) + 1 < (l.length : Int) := by omega
                  have hmt : ((m : Int) + 1).toNat = m + 1 := by omega
                  have HRS := Lib.hid (And.intro hrr (And.intro hsr (And.intro hky hrb)))
                  have HLR := Lib.hid (And.intro hr hs)
                  have hbl15 := H14.out.key.lt
                  clear hrw hAr hrr hsr hky hr hs
                  go_upto_region 39 with (fail)
                  go_cut [201] (fun v w' => v = .bool (r.fits k && s.fits k) ∧ Below w15.heap.size w15 w')
                  case first =>
                    have F0 : ∀ z : Wld (fun x => Below w15.heap.size w15 x), (loadRow 43 (.pointer (some ⟨rb, ro + m * 44, none⟩))).run Try.prog z.w = .ok (.agg r.arr) z.w := fun z => row_ru hrok (range_below HRS.out.1 HRS.out.2.2.2 z.ok)
                    have F1 : ∀ z : Wld (fun x => Below w15.heap.size w15 x), (loadRow 43 (.pointer (some ⟨rb, ro + (m + 1) * 44, none⟩))).run Try.prog z.w = .ok (.agg s.arr) z.w := fun z => row_ru hsok (range_below HRS.out.2.1 HRS.out.2.2.2 z.ok)
                    have F2 : ∀ z : Wld (fun x => Below w15.heap.size w15 x), (loadRow 28 (.pointer (some ⟨b, 0, none⟩))).run Try.prog z.w = .ok (.agg k.arr) z.w := fun z => row_ky hk (range_below HRS.out.2.2.1 hbl15 z.ok)
                    haveI hne : Nonempty (Wld (fun x => Below w15.heap.size w15 x)) := ⟨⟨w15, Below.refl _ _⟩⟩
                    have hcase : (r.fits k = false) ∨ (r.fits k = true ∧ s.fits k = false) ∨ (r.fits k = true ∧ s.fits k = true) := by cases r.fits k <;> cases s.fits k <;> simp
                    rcases hcase with h1 | ⟨h1, h2⟩ | ⟨h1, h2⟩
                    · refine region_class (fun x => Below w15.heap.size w15 x) (by kernel_rfl) (by kernel_rfl) (Below.refl _ _).drew ?_
                      repeat (go_big_quiet_step (fail))
                      (go_big_quiet_step ((rename_i z; go_at_call 12; refine (fits_is hrok hk _).mono ?_; intro e w' hh; obtain ⟨he, hb⟩ := hh; rw [h1] at he; refine ⟨he, ?_⟩; have hz := z.ok; have hq := hz.trans (hb.mono hz.size); exact ⟨⟨w', hq⟩, rfl⟩)))
                      repeat (go_big_quiet_step (fail))
                      refine wpQuiet_nil ?_
                      intro w16 hB16
                      have HB16 := Lib.hid hB16
                      clear hB16 F0 F1 F2 hne
                      go_wp2_with fail
                      go_meet
                      case rel => exact ⟨by first | simp [h1, h2] | simp [h1], HB16.out⟩
                    · refine region_class (fun x => Below w15.heap.size w15 x) (by kernel_rfl) (by kernel_rfl) (Below.refl _ _).drew ?_
                      repeat (go_big_quiet_step (fail))
                      (go_big_quiet_step ((rename_i z; go_at_call 12; refine (fits_is hrok hk _).mono ?_; intro e w' hh; obtain ⟨he, hb⟩ := hh; rw [h1] at he; refine ⟨he, ?_⟩; have hz := z.ok; have hq := hz.trans (hb.mono hz.size); exact ⟨⟨w', hq⟩, rfl⟩)))
                      repeat (go_big_quiet_step (fail))
                      (go_big_quiet_step ((rename_i z; go_at_call 12; refine (fits_is hsok hk _).mono ?_; intro e w' hh; obtain ⟨he, hb⟩ := hh; rw [h2] at he; refine ⟨he, ?_⟩; have hz := z.ok; have hq := hz.trans (hb.mono hz.size); exact ⟨⟨w', hq⟩, rfl⟩)))
                      repeat (go_big_quiet_step (fail))
                      refine wpQuiet_nil ?_
                      intro w16 hB16
                      have HB16 := Lib.hid hB16
                      clear hB16 F0 F1 F2 hne
                      go_wp2_with fail
                      go_meet
                      case rel => exact ⟨by first | simp [h1, h2] | simp [h1], HB16.out⟩
                    · refine region_class (fun x => Below w15.heap.size w15 x) (by kernel_rfl) (by kernel_rfl) (Below.refl _ _).drew ?_
                      repeat (go_big_quiet_step (fail))
                      (go_big_quiet_step ((rename_i z; go_at_call 12; refine (fits_is hrok hk _).mono ?_; intro e w' hh; obtain ⟨he, hb⟩ := hh; rw [h1] at he; refine ⟨he, ?_⟩; have hz := z.ok; have hq := hz.trans (hb.mono hz.size); exact ⟨⟨w', hq⟩, rfl⟩)))
                      repeat (go_big_quiet_step (fail))
                      (go_big_quiet_step ((rename_i z; go_at_call 12; refine (fits_is hsok hk _).mono ?_; intro e w' hh; obtain ⟨he, hb⟩ := hh; rw [h2] at he; refine ⟨he, ?_⟩; have hz := z.ok; have hq := hz.trans (hb.mono hz.size); exact ⟨⟨w', hq⟩, rfl⟩)))
                      repeat (go_big_quiet_step (fail))
                      refine wpQuiet_nil ?_
                      intro w16 hB16
                      have HB16 := Lib.hid hB16
                      clear hB16 F0 F1 F2 hne
                      go_wp2_with fail
                      go_meet
                      case rel => exact ⟨by first | simp [h1, h2] | simp [h1], HB16.out⟩
                  case rest =>
                    obtain ⟨rfl, hB16⟩ := hcut
                    obtain ⟨w16, rfl⟩ : ∃ wo : World, wo = wc := ⟨_, rfl⟩
                    have L16 := H14.out.below hB16
                    have hl16 := HL.out.below L16.bel
                    have HRS16 := Lib.hid (And.intro (range_below HRS.out.1 HRS.out.2.2.2 hB16) (And.intro (range_below HRS.out.2.1 HRS.out.2.2.2 hB16) (Nat.lt_of_lt_of_le HRS.out.2.2.2 hB16.size)))
                    have hrb16 := HRS16.out.2.2
                    have H16 := Lib.hid L16
                    have hw16 := L16.bel.size
                    clear hB16 L16 HRS H14 hbl15 hrb
                    cases hq : (r.fits k && s.fits k) with
                    | true =>
                      as_aux_lemma =>
                      clear hq
                      go_wp2_with fail
                      refine (works_any _).mono ?_
                      rintro e w17 ⟨rfl, hB17⟩
                      go_wp2_with fail
                      go_ret
                      exact ⟨rfl, (H16.out.below hB17).bel⟩
                    | false =>
                      as_aux_lemma =>
                      have hb : ¬ (r.fits k = true ∧ s.fits k = true) := fun h => by rw [h.1, h.2] at hq; exact absurd hq (by decide)
                      clear hq
                      obtain ⟨A, Z, hl1, hl2⟩ := set_swap HLR.out.1 HLR.out.2
                      have hT3 : told ((l.set m s).set (m + 1) r) (others deny cls) k = R := by
                        have h3 := find_swap hb A Z
                        rw [hl2]
                        unfold told
                        rw [← h3, ← hl1]
                        exact HP.out.2.2.2.1
                      have hmem : ∀ x ∈ (l.set m s).set (m + 1) r, x ∈ l := by
                        rw [hl2]
                        intro x hx
                        rw [hl1]
                        simp at hx ⊢
                        rcases hx with h | h | h | h <;> simp [h]
                      have HT3 := Lib.hid (And.intro hT3 hmem)
                      clear hb hl1 hl2 hT3 hmem A Z
                      go_wp2_with (first | (at_builtin; refine wpList_append_rules rfl (.tmp 203) (.tmp 204) rfl rfl rfl hl16 hZ (by omega) ?_))
                      intro v17 w17 ho17 hB17
                      obtain ⟨ta, tc, rfl⟩ := own_shape ho17
                      obtain ⟨g, cur, rfl, hg, hgb, hgc, hgm, hgs, hgx⟩ := own_open ho17 (by omega)
                      have ls17 := row_ru hsok (range_below HRS16.out.2.1 hrb16 hB17)
                      have hsz17 := hB17.size
                      have H17 := Lib.hid (And.intro hB17 (And.intro hgs hgx))
                      have HG := Lib.hid hgb
                      clear ho17 hB17 hgx hl16
                      go_wp2_with (first | (refine wpList_store_at rfl 43 (.tmp 213) (.tmp 212) rfl g (m * 44) (.agg s.arr) rfl rfl 43 cur HG.out s.cs rfl (by rw [hsok.len]; kernel_rfl) (by rw [hsok.len, hgs]; omega) s.one ?_))
                      intro w18 hS18
                      have ho18 := own_stored (i := m) HP.out.2.2.1 hsok hg hgc hgm hgs H17.out.2.2 (by omega) (by rw [List.append_assoc]; exact hS18)
                      have hB18 := H17.out.1.trans (hS18.only.below H17.out.1.size (fun q hq e => by omega))
                      obtain ⟨g2, cur2, eg, _, hgb2, hgc2, _, hgs2, hgx2⟩ := own_open ho18 (by rw [List.length_set]; omega)
                      have eg : g = g2 := by injection eg with eg; injection eg
                      subst eg
                      have hfit2 : (m + 1) * 44 + r.cs.length ≤ cur2.size := by rw [hrok.len, hgs2]; rw [List.length_set] at hgc2; omega
                      have lr18 := row_ru hrok (range_below HRS16.out.1 hrb16 hB18)
                      have hok18 : ∀ x ∈ l.set m s, x.Ok := fun x hx => (List.mem_or_eq_of_mem_set hx).elim (HP.out.2.2.1 x) (fun e => e ▸ hsok)
                      have H18 := Lib.hid (And.intro hB18 (And.intro hok18 hgx2))
                      have HG2 := Lib.hid hgb2
                      have hls : (l.set m s).length = l.length := List.length_set
                      clear hS18 ho18 hB18 hgb hgb2 H17 HG ls17 hok18 hgx2
                      go_wp2_with (first | (refine wpList_store_at rfl 43 (.tmp 221) (.tmp 220) rfl g ((m + 1) * 44) (.agg r.arr) rfl rfl 43 cur2 HG2.out r.cs rfl (by rw [hrok.len]; kernel_rfl) hfit2 r.one ?_))
                      intro w19 hS19
                      have ho19 := own_stored (i := m + 1) H18.out.2.1 hrok hg hgc2 hgm hgs2 H18.out.2.2 (by omega) (by rw [List.append_assoc]; exact hS19)
                      rw [hls] at ho19
                      have hB19 := H18.out.1.trans (hS19.only.below H18.out.1.size (fun q hq e => by omega))
                      have hr19 : Rules w19 (.slice (some ⟨g, 0, none⟩) l.length tc) ((l.set m s).set (m + 1) r) := ho19.rules (fun x hx => HP.out.2.2.1 x (HT3.out.2 x hx))
                      have hlt : ((l.set m s).set (m + 1) r).length = l.length := by simp
                      have L19 := H16.out.below hB19
                      have H19 := Lib.hid L19
                      have hbl19 := L19.key.lt
                      have hw19 := L19.bel.size
                      clear hS19 ho19 hB19 H18 HG2 lr18 H16 HRS16 L19
                      generalize (l.set m s).set (m + 1) r = T at *
                      go_wp2_with fail
                      refine (new_is deny cls hr19 (by omega)).mono ?_
                      intro e w20 hN
                      obtain ⟨pd, rfl, hCd, hB20⟩ := new_rights hN (by omega) HP.out.1 (fun x hx => HP.out.2.1 x (HT3.out.2 x hx))
                      have L20 := H19.out.below hB20
                      have lk20 := row_ky hk L20.key.rng
                      have H20 := Lib.hid (And.intro L20 hCd)
                      have hs20 := hB20.size
                      clear hN hCd hB20 L20 hr19 H19
                      go_wp2_with fail
                      refine (class_is H20.out.2 hk (by omega) (by omega)).mono ?_
                      rintro e w21 ⟨he, _, hO21⟩
                      rw [HT3.out.1, HP.out.2.2.2.2] at he
                      subst he
                      have L21 := H20.out.1.only hO21 (fun e => by omega) (fun j e => by omega)
                      have H21 := Lib.hid L21
                      clear hO21 L21 H20 lk20
                      go_wp2_with fail
                      refine (works_any _).mono ?_
                      rintro e w22 ⟨rfl, hB22⟩
                      go_wp2_with fail
                      go_ret
                      exact ⟨rfl, (H21.out.below hB22).bel⟩
end Go.Proofs.Ytcbkcalemfminaa

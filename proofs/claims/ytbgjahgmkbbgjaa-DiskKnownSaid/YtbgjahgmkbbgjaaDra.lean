/- DiskPlays, walked. -/
import Derived.Test.YtbgjahgmkbbgjaaDr9
import Derived.Outline
import Derived.Deep.CutBlock
import Derived.Deep.DeepCutAuto
import Derived.Deep.RegionWith
import Derived.Deep.DrawnRows
namespace Go.Proofs.Ytbgjahgmkbbgjaa
open Go.RowKit
attribute [local go_sem ↓] Go.wp_at_zero Go.wp_at_succ

set_option maxRecDepth 100000 in
set_option maxHeartbeats 8000000 in
theorem plays_any (size at_ n : Int) (lv : Value) (l : List Act1) (w : World) (hl : IsActs w lv l) :
    Calls Try.prog 20 #[.int .i64 size, lv, .int .i64 at_, .int .i64 n] w fun e w' => e = .returned (.bool true) ∧ Below w.heap.size w w' := by
  obtain ⟨la, lc, elv, hlc⟩ := id hl
  have HLL := Lib.hid hl
  have HLC := Lib.hid hlc
  clear hl hlc
  subst elv
  by_cases hmid : 300 < size ∧ size ≤ 65536
  · as_aux_lemma =>
    obtain ⟨h3, h6⟩ := hmid
    go_enter Try.func20, Try.ntmps20
    go_wp2_with fail
    refine (works_any _).mono ?_
    rintro e w' ⟨rfl, hB⟩
    go_wp2_with fail
    go_ret
    exact ⟨rfl, hB⟩
  · have hpick : ¬ 300 < size ∨ 65536 < size := by omega
    by_cases hbad : size < 0 ∨ 65536 < size
    · as_aux_lemma =>
      obtain ⟨c, hcc⟩ : ∃ c : Int, (size < 0 ∧ c = 2) ∨ (65536 < size ∧ c = 3) := by
        rcases hbad with h | h
        · exact ⟨2, .inl ⟨h, rfl⟩⟩
        · exact ⟨3, .inr ⟨h, rfl⟩⟩
      have HCC := Lib.hid hcc
      have hc0 : (c == 0) = false := by rcases hcc with ⟨_, rfl⟩ | ⟨_, rfl⟩ <;> rfl
      have hc1 : (c != 0) = true := by rcases hcc with ⟨_, rfl⟩ | ⟨_, rfl⟩ <;> rfl
      have d1 : (decide (300 < size) && decide (size ≤ 65536)) = false := by
        rcases hcc with ⟨h, _⟩ | ⟨h, _⟩
        · have : decide (300 < size) = false := decide_eq_false (by omega)
          rw [this]; rfl
        · have : decide (size ≤ 65536) = false := decide_eq_false (by omega)
          rw [this, Bool.and_false]
      clear hmid hpick hcc
      rcases hbad with hb | hb
      all_goals
        go_enter Try.func20, Try.ntmps20
        go_wp2_with fail
        refine (few_any _ l _ HLL.out).mono ?_
        rintro e w' ⟨fb, rfl, rfl, _⟩
        obtain ⟨w, rfl⟩ : ∃ w0 : World, w0 = w' := ⟨_, rfl⟩
        cases fb with
        | false =>
          go_wp2_with fail
          refine (works_any _).mono ?_
          rintro e w' ⟨rfl, hB⟩
          go_wp2_with fail
          go_ret
          exact ⟨rfl, hB⟩
        | true =>
          go_wp2_with fail
          refine (dnew_bad size c HCC.out _).mono ?_
          rintro e w' ⟨rfl, rfl⟩
          obtain ⟨w, rfl⟩ : ∃ w0 : World, w0 = w' := ⟨_, rfl⟩
          have HR := Lib.hid (rnew_bad size c HCC.out w)
          rw [str8_rd0] at HR
          go_wp2_with fail
          refine HR.out.mono ?_
          rintro e w1 ⟨rfl, hB1⟩
          go_wp2_with fail
          refine (works_any _).mono ?_
          rintro e w2 ⟨rfl, hB2⟩
          go_wp2_with fail
          go_ret
          exact ⟨rfl, (hB1.trans ((Below.refl w1.heap.size w1).alloc (Nat.le_refl _) _ |>.mono hB1.size)).trans (hB2.mono (by have := hB1.size; simp; omega))⟩
    · obtain ⟨N, rfl⟩ : ∃ N : Nat, size = N := ⟨size.toNat, by omega⟩
      have hN3 : N ≤ 300 := by omega
      have hN6 : N ≤ 65536 := by omega
      clear hmid hpick hbad
      have d3 : decide ((300 : Int) < (N : Int)) = false := decide_eq_false (by omega)
      go_enter Try.func20, Try.ntmps20
      go_wp2_with fail
      refine (few_any _ l _ HLL.out).mono ?_
      rintro e w' ⟨fb, rfl, rfl, hb⟩
      obtain ⟨w, rfl⟩ : ∃ w0 : World, w0 = w' := ⟨_, rfl⟩
      cases fb with
      | false =>
        clear hb
        go_wp2_with fail
        refine (works_any _).mono ?_
        rintro e w' ⟨rfl, hB⟩
        go_wp2_with fail
        go_ret
        exact ⟨rfl, hB⟩
      | true =>
        have HF := Lib.hid (hb rfl)
        clear hb
        have hl40 : l.length ≤ 40 := HF.out.1
        go_wp2_with fail
        refine (new_d N hN6 _).mono ?_
        rintro e w1 ⟨p, r1, rfl, hD1, hO1, hr1⟩
        have HM1 : Hid (Mine w w1 p r1 N (blank N)) := ⟨hD1, hr1, hO1.below (Nat.le_refl _) (fun _ _ h => h)⟩
        clear hD1 hO1 hr1
        have HR := Lib.hid (rnew_ok N hN6 w1)
        unfold rd at HR
        go_wp2_with fail
        refine HR.out.mono ?_
        rintro e w2 ⟨rfl, hB2⟩
        have hB3 : Below w1.heap.size w1 (w2.alloc (.cells #[.string (str8 (List.replicate N 0)), .slice none 0 0] 66)) := hB2.trans (((Below.refl w2.heap.size w2).alloc (Nat.le_refl _) _).mono hB2.size)
        have M3 := HM1.out.below hB3
        have hb3 := alloc_block_new w2 (.cells #[.string (str8 (List.replicate N 0)), .slice none 0 0] 66)
        have hrb : r1 w2.heap.size = 0 := HM1.out.free hB2.size
        have hbs : w.heap.size ≤ w2.heap.size := Nat.le_trans HM1.out.bel.size hB2.size
        have H3 := Lib.hid (And.intro M3 (And.intro hb3 (And.intro hrb hbs)))
        clear hB2 hB3 M3 hb3 hrb hbs HM1 HR
        go_upto_region 9 with (fail)
        generalize w2.alloc (.cells #[.string (str8 (List.replicate N 0)), .slice none 0 0] 66) = w3 at *
        generalize w2.heap.size = b at *
        have hbl : b < w3.heap.size := lt_of_obj H3.out.2.1
        have q0 : w3.cell? ⟨b, 0, none⟩ = some (.string (str8 (List.replicate N 0))) := cell_of_block H3.out.2.1 0
        have q1 : w3.cell? ⟨b, 1, none⟩ = some (.slice none 0 0) := cell_of_block H3.out.2.1 1
        have HCP : Hid (∀ w', Below w3.heap.size w3 w' → Calls Try.prog 17 #[.pointer (some ⟨p, 0, none⟩)] w' fun e w'' => ∃ q s, e = .returned (.pointer (some ⟨q, 0, none⟩)) ∧ Dsk w'' q s N (blank N) ∧ Below w3.heap.size w3 w'' ∧ Below w'.heap.size w' w'' ∧ ∀ k, s k ≠ 0 → w'.heap.size ≤ k) := fun w' hB =>
          (copy_d (H3.out.1.d.below hB)).mono fun e w'' ⟨q, s, he, hD, hB', hs⟩ => ⟨q, s, he, hD, hB.trans (hB'.mono hB.size), hB', hs⟩
        have ne5 : ¬ b = w3.heap.size := by omega
        have ne6 : ¬ w3.heap.size = b := by omega
        go_cut [13, 14] (CRel0 w w3 p r1 N (blank N) b)
        case first =>
          as_aux_lemma =>
          go_region_held3 (fun w' => w'.cell? ⟨b, 0, none⟩ = some (.string (str8 (List.replicate N 0))) ∧ w'.cell? ⟨b, 1, none⟩ = some (.slice none 0 0)) (go_keep)
            (first
              | (go_at_call 17; refine Calls.mono (HCP.out _ ?_) ?_
                 · first | exact (Below.refl _ _).drew | exact ((Below.refl _ _).alloc (Nat.le_refl _) _).drew
                 rintro e w4 ⟨q, s, rfl, hD4, hB4, hBn, hs4⟩
                 have HBn := Lib.hid hBn.size
                 first
                   | (have HN := Lib.hid (new_in hBn)
                      have t0 := cell_of_block HN.out 0; have t1 := cell_of_block HN.out 1
                      have f0 := free_of_block HN.out 0; have f1 := free_of_block HN.out 1
                      dsimp at t0 t1)
                   | skip
                 have i0 := (hB4.cell (p := ⟨b, 0, none⟩) hbl).trans q0; have i1 := (hB4.cell (p := ⟨b, 1, none⟩) hbl).trans q1
                 have hs6 := hB4.size
                 have ne1 : ¬ b = w4.heap.size := by omega
                 have ne2 : ¬ w4.heap.size = b := by omega
                 have HD4 := Lib.hid hD4; have HB4 := Lib.hid hB4; have HS4 := Lib.hid hs4; clear hBn hD4 hB4 hs4))
          all_goals
            clear ne1 ne2 ne5 ne6 i0 i1 q0 q1
            obtain ⟨hM, hbb, hrb, hbs⟩ := H3.out
            go_wp2_with fail
            go_meet
            case rel =>
              first
                | exact ⟨q, _, s, rfl, rfl, cr0_of hM hbb hrb hbs rfl HB4.out HD4.out (fun k hk => ⟨by have := HS4.out k hk; simp at this; omega, HD4.out.lt k hk⟩) ((Only.refl _ _).alloc _) (alloc_block_new _ _) hs6 (by
                    rcases Nat.eq_zero_or_pos (s w4.heap.size) with e | e
                    · exact e
                    · have := HD4.out.lt w4.heap.size (by omega); omega)⟩
                | (obtain ⟨hbn, hbO⟩ := set2_blk HN.out (.string (str8 (List.replicate N 0))) (.slice none 0 0)
                   exact ⟨q, _, s, rfl, rfl, cr0_of hM hbb hrb hbs rfl HB4.out HD4.out (fun k hk => ⟨by have := HS4.out k hk; simp at this; omega, HD4.out.lt k hk⟩) hbO hbn (Nat.le_refl _) (by
                    rcases Nat.eq_zero_or_pos (s w3.heap.size) with e | e
                    · exact e
                    · have := HS4.out w3.heap.size (by omega); simp at this; omega)⟩)
        case rest =>
          obtain ⟨q, b2, s, rfl, rfl, hS⟩ := hcut
          have HS := Lib.hid hS
          clear hS HCP H3 q0 q1 ne5 ne6 hbl
          have HBL : Hid ((blank N).uns.length ≤ 0) := Nat.le_refl _
          generalize blank N = D0 at *
          go_wp2_with fail
          go_loopw [15] (QRel w p q b b2 s N D0 l.length) (fun i _ => l.length - (intOf i).toNat)
          case atStart => exact ⟨0, r1, D0, _, rfl, Nat.zero_le _, HBL.out, HS.out⟩
          case round =>
            clear HS HBL
            obtain ⟨k, r, D, v, rfl, hk, hd, hS⟩ := hrel
            by_cases hlt : k < l.length
            · obtain ⟨lb, lo, rfl, hb, hA⟩ := HLC.out (by omega)
              obtain ⟨A, hAk⟩ : ∃ A, l[k]? = some A := ⟨_, List.getElem?_eq_getElem hlt⟩
              have hA1 := (hA k A hAk).below hb hS.m.bel
              have hAold := hA k A hAk
              obtain ⟨da, dc, ed, _⟩ := id hA1.d
              obtain ⟨fa, fc, ef, _⟩ := id hA1.f
              have c0 := hA1.c0
              have c1 := hA1.c1
              have c2 := hA1.c2
              have c3 := hA1.c3
              rw [ed] at c2
              rw [ef] at c3
              have hfew := (HF.out.2 A (List.mem_of_getElem? hAk)).1
              have hfewf := (HF.out.2 A (List.mem_of_getElem? hAk)).2
              have hBx : Below wr.heap.size wr (wr.alloc (.cells #[.int .i64 A.kind, .int .i64 A.at_, .slice da A.ds.length dc, .slice fa A.fs.length fc] 33)) := (Below.refl _ _).alloc (Nat.le_refl _) _
              have hgx := alloc_block_new wr (.cells #[.int .i64 A.kind, .int .i64 A.at_, .slice da A.ds.length dc, .slice fa A.fs.length fc] 33)
              have S3 := hS.below hBx
              have hd3 := hA1.d.below hBx
              have hf3 := hA1.f.below hBx
              rw [ed] at hd3
              rw [ef] at hf3
              have hgw : w.heap.size ≤ wr.heap.size := hS.m.bel.size
              have hrx : r wr.heap.size = 0 ∧ s wr.heap.size = 0 := ⟨hS.m.free (Nat.le_refl _), hS.f.free (Nat.le_refl _)⟩
              have hfo : 0 < A.fs.length → ∀ j, (Value.slice fa A.fs.length fc).ownBlock = some j → j < w.heap.size := fun h j hj => by
                have h1 := hAold.f.lt h
                rw [ef] at h1
                exact h1 j hj
              have H3 := Lib.hid (And.intro S3 (And.intro hgx (And.intro hd3 (And.intro hf3 (And.intro hgw (And.intro hrx hfo))))))
              clear hS hA hA1 hAold hAk ed ef hb hBx hgx S3 hd3 hf3 hgw hrx hfo
              go_wp2_with fail
              refine (join_is _ A.ds _ H3.out.2.2.1 (by omega)).mono ?_
              rintro e w4 ⟨y, rfl, hy, hB4⟩
              obtain ⟨S3, hgx, hd3, hf3, hgw, hrx, hfo⟩ := H3.out
              obtain ⟨ya, yc, ey⟩ := own_shape hy
              subst ey
              have S4 := S3.below hB4
              have hg4 := (hB4.block _ (lt_of_obj hgx)).trans hgx
              have hd4 := hd3.below hB4
              have hf4 := hf3.below hB4
              have hyr : ∀ j, (Value.slice ya A.ds.length yc).ownBlock = some j → r j = 0 ∧ s j = 0 := fun j hj => ⟨S3.m.free (own_ge hy j hj), S3.f.free (own_ge hy j hj)⟩
              have hyo := own_lower hy S3.m.bel.size
              obtain ⟨gx, egx⟩ : ∃ t, wr.heap.size = t := ⟨_, rfl⟩
              rw [egx] at hg4 hgw hrx ⊢
              have e0 : w4.cell? ⟨gx, 0, none⟩ = _ := cell_of_block hg4 0
              dsimp at e0
              have H4 := Lib.hid (And.intro S4 (And.intro hg4 (And.intro hd4 (And.intro hf4 (And.intro hyr (And.intro hyo (And.intro hgw (And.intro hrx hfo))))))))
              clear S3 hgx hd3 hf3 hgw hrx hfo hy hB4 S4 hg4 hd4 hf4 hyr hyo egx H3 c0 c1 c2 c3
              go_wp2_with fail
              refine (pick_any A.kind 8 (by omega) (by omega) _).mono ?_
              rintro e w' ⟨m, rfl, hm8, rfl⟩
              obtain ⟨w4, rfl⟩ : ∃ w0 : World, w0 = w' := ⟨_, rfl⟩
              clear e0
              go_upto_block 2 with (fail)
              go_cut [18] (fun _ w' => QMid w p q b b2 s N D0 k (.slice ya A.ds.length yc) A.ds.length A.ds w')
              case first =>
                refine wp_block ?_
                refine wp_seq_k ?_
                intro KK hKK
                go_cut [88] (fun v w' => v = .bool (decide (m ≤ 3)) ∧ w' = w4)
                case first =>
                  as_aux_lemma =>
                  by_cases h0 : m = 0
                  · subst h0
                    go_wp2_with fail
                    go_meet
                    case rel => exact ⟨rfl, rfl⟩
                  · by_cases h1 : m = 1
                    · subst h1
                      go_wp2_with fail
                      go_meet
                      case rel => exact ⟨rfl, rfl⟩
                    · by_cases h2 : m = 2
                      · subst h2
                        go_wp2_with fail
                        go_meet
                        case rel => exact ⟨rfl, rfl⟩
                      · by_cases h3 : m = 3
                        · subst h3
                          go_wp2_with fail
                          go_meet
                          case rel => exact ⟨rfl, rfl⟩
                        · go_wp2_with fail
                          go_meet
                          case rel => exact ⟨by rw [decide_eq_false (show ¬ m ≤ 3 by omega)]; exact congrArg Value.bool (by simp; omega), rfl⟩
                case rest =>
                  obtain ⟨rfl, rfl⟩ := hcut
                  obtain ⟨w4, rfl⟩ : ∃ w0 : World, w0 = wc := ⟨_, rfl⟩
                  have hbx := H4.out.1.box
                  have q0 : w4.cell? ⟨b, 0, none⟩ = _ := cell_of_block hbx 0
                  have q1 : w4.cell? ⟨b, 1, none⟩ = _ := cell_of_block hbx 1
                  dsimp at q0 q1
                  have fq0 := free_of_block hbx 0
                  have fq1 := free_of_block hbx 1
                  have x1 : w4.cell? ⟨gx, 1, none⟩ = _ := cell_of_block H4.out.2.1 1
                  have x2 : w4.cell? ⟨gx, 2, none⟩ = _ := cell_of_block H4.out.2.1 2
                  have x3 : w4.cell? ⟨gx, 3, none⟩ = _ := cell_of_block H4.out.2.1 3
                  dsimp at x1 x2 x3
                  obtain ⟨va, vc, ev⟩ := H4.out.1.rw.shape
                  subst ev
                  clear hbx
                  by_cases h03 : m ≤ 3
                  · rw [decide_eq_true h03]
                    as_aux_lemma =>
                    have HPU := Lib.hid (rput_any A.at_ A.ds H4.out.1.rw H4.out.1.m.bel.size H4.out.1.m.d.wf (by omega) (by omega))
                    have hcv := conv8 H4.out.2.2.1
                    unfold rd at HPU
                    go_wp2_with fail
                    refine HPU.out.mono ?_
                    rintro e w6 ⟨a6, k6, rfl, hR6, hB6, hj6⟩
                    obtain ⟨S4, hg4, hd4, hf4, hyr, hyo, hgw, hrx, hfo⟩ := H4.out
                    generalize hD' : wrote N D A.at_ A.ds = D' at *
                    have hB7 : Below w4.heap.size w4 (w6.alloc (.cells #[.string (str8 D'.dur), .slice a6 D'.uns.length k6] 66)) := hB6.trans (((Below.refl w6.heap.size w6).alloc (Nat.le_refl _) _).mono hB6.size)
                    have hz7 := alloc_block_new w6 (.cells #[.string (str8 D'.dur), .slice a6 D'.uns.length k6] 66)
                    have hR7 := hR6.below ((Below.refl w6.heap.size w6).alloc (Nat.le_refl _) (.cells #[.string (str8 D'.dur), .slice a6 D'.uns.length k6] 66))
                    have S7 := S4.below hB7
                    have hg7 := (hB7.block gx (lt_of_obj hg4)).trans hg4
                    have hy7 := own_belowb hyo hB7
                    have hvr : ∀ j, (Value.slice a6 D'.uns.length k6).ownBlock = some j → r j = 0 ∧ s j = 0 := fun j hj => (hj6 j hj).elim (S4.vr j) (fun h => ⟨S4.m.free h, S4.f.free h⟩)
                    have hrz : r w6.heap.size = 0 := S4.m.free hB6.size
                    have hwr := write_d A.at_ (.slice ya A.ds.length yc) A.ds S7.m.d hy7.holds (fun _ j hj => (hyr j hj).1) (by omega)
                    rw [hD'] at hwr
                    have hun : D'.uns.length ≤ k + 1 := by rw [← hD']; have := wrote_uns N D A.at_ A.ds; omega
                    have z1 : (w6.alloc (.cells #[.string (str8 D'.dur), .slice a6 D'.uns.length k6] 66)).cell? ⟨gx, 1, none⟩ = _ := cell_of_block hg7 1
                    dsimp at z1
                    have HWR := Lib.hid hwr
                    have H7 := Lib.hid (And.intro S7 (And.intro hz7 (And.intro hR7 (And.intro hy7 (And.intro hyr (And.intro hvr hrz))))))
                    clear hwr hD' hB7 hz7 hR7 S7 hg7 hy7 hvr hrz hR6 hB6 hj6 S4 hg4 hd4 hf4 hyr hyo hgw hrx hfo q0 q1 x1 x2 x3 fq0 fq1 hcv HPU H4
                    go_wp2_with fail
                    refine HWR.out.mono ?_
                    rintro e w8 ⟨rfl, r', hD8, hO8, hr8⟩
                    obtain ⟨S7, hz7, hR7, hy7, hyr, hvr, hrz⟩ := H7.out
                    have hzz : ∀ j, j < (w6.alloc (.cells #[.string (str8 D'.dur), .slice a6 D'.uns.length k6] 66)).heap.size → r j = 0 → r' j = 0 := fun j hj h0 => by
                      rcases Nat.eq_zero_or_pos (r' j) with e | e
                      · exact e
                      · rcases hr8 j (by omega) with h1 | h1
                        · exact absurd h0 h1
                        · omega
                    have S8 := S7.step hD8 hO8 hr8
                    have hz8 := hO8.keep hz7 (fun e => e hrz)
                    have hR8 := hR7.keep hO8 (fun j hj e => e (hvr j hj).1)
                    have hv8 : ∀ j, (Value.slice a6 D'.uns.length k6).ownBlock = some j → r' j = 0 ∧ s j = 0 := fun j hj => ⟨hzz j (hR7.ge j hj).2 (hvr j hj).1, (hvr j hj).2⟩
                    have hy8 := own_only hy7 hO8 (fun j hj e => e (hyr j hj).1)
                    have hyr8 : ∀ j, (Value.slice ya A.ds.length yc).ownBlock = some j → r' j = 0 ∧ s j = 0 := fun j hj => ⟨hzz j (own_lt hy7 j hj) (hyr j hj).1, (hyr j hj).2⟩
                    obtain ⟨hbn, hbO⟩ := set2_blk S8.box (.string (str8 D'.dur)) (.slice a6 D'.uns.length k6)
                    have S9 := S8.put (R' := D') hbn hbO hR8 hv8
                    have hy9 := own_only hy8 hbO (fun j hj e => by
                      obtain ⟨c, hc⟩ := row_type hy8 j hj
                      exact blk_ne hc S8.box (by decide) e)
                    have HM := Lib.hid (show QMid w p q b b2 s N D0 k (.slice ya A.ds.length yc) A.ds.length A.ds _ from ⟨r', D', _, hun, S9, hy9, rfl, hyr8⟩)
                    obtain ⟨gz, egz⟩ : ∃ t, w6.heap.size = t := ⟨_, rfl⟩
                    rw [egz] at hz8 ⊢
                    have n0 : w8.cell? ⟨gz, 0, none⟩ = _ := cell_of_block hz8 0
                    have n1 : w8.cell? ⟨gz, 1, none⟩ = _ := cell_of_block hz8 1
                    have q0 : w8.cell? ⟨b, 0, none⟩ = _ := cell_of_block S8.box 0
                    have q1 : w8.cell? ⟨b, 1, none⟩ = _ := cell_of_block S8.box 1
                    have f0 := free_of_block S8.box 0
                    have f1 := free_of_block S8.box 1
                    dsimp at n0 n1 q0 q1
                    clear S7 hz7 hR7 hy7 hyr hvr hrz hzz S8 hz8 hR8 hv8 hy8 hyr8 hbn hbO S9 hy9 hD8 hO8 hr8 HWR H7 egz z1
                    go_wp2_with fail
                    go_meet
                    case rel => exact HM.out
                  · rw [decide_eq_false h03]
                    have h40 : 3 < m := by omega
                    by_cases h4 : m = 4
                    · subst h4
                      as_aux_lemma =>
                      obtain ⟨S4, hg4, hd4, hf4, hyr, hyo, hgw, hrx, hfo⟩ := H4.out
                      have HSY := Lib.hid (sync_d S4.m.d)
                      have H5 := Lib.hid (And.intro S4 (And.intro hyr hyo))
                      clear S4 hg4 hd4 hf4 hyr hyo hgw hrx hfo q0 q1 x1 x2 x3 fq0 fq1 H4
                      go_wp2_with fail
                      refine HSY.out.mono ?_
                      rintro e w6 ⟨rfl, hD6, hO6⟩
                      obtain ⟨S4, hyr, hyo⟩ := H5.out
                      have S6 := S4.step hD6 hO6 (fun _ h => .inl h)
                      have hy6 := own_only hyo hO6 (fun j hj e => e (hyr j hj).1)
                      have hwf := S4.m.d.wf
                      have hrs := rsync_is D.dur S6.rw (by rw [hwf.dur]; exact hN6) (by rw [hwf.dur]; exact hwf.lie) hwf.few
                      rw [← hwf.now] at hrs
                      unfold rd at hrs
                      have q0 : w6.cell? ⟨b, 0, none⟩ = _ := cell_of_block S6.box 0
                      have q1 : w6.cell? ⟨b, 1, none⟩ = _ := cell_of_block S6.box 1
                      dsimp at q0 q1
                      have HRS := Lib.hid hrs
                      have H6 := Lib.hid (And.intro S6 (And.intro hyr hy6))
                      clear S4 hyr hyo S6 hy6 hwf hrs hD6 hO6 H5 HSY
                      go_wp2_with fail
                      refine HRS.out.mono ?_
                      rintro e w7 ⟨rfl, hB7⟩
                      obtain ⟨S6, hyr, hy6⟩ := H6.out
                      have S7 := S6.below hB7
                      have hy7 := own_belowb hy6 hB7
                      obtain ⟨hbn, hbO⟩ := set2_blk S7.box (.string (str8 D.now)) (.slice none 0 0)
                      have S8 := S7.put (R' := synced D.now) hbn hbO (.inl ⟨rfl, rfl⟩) (fun j hj => by simp [Value.ownBlock] at hj)
                      have hy8 := own_only hy7 hbO (fun j hj e => by
                        obtain ⟨c, hc⟩ := row_type hy7 j hj
                        exact blk_ne hc S7.box (by decide) e)
                      have HM := Lib.hid (show QMid w p q b b2 s N D0 k (.slice ya A.ds.length yc) A.ds.length A.ds _ from ⟨r, synced D.now, _, Nat.zero_le _, S8, hy8, rfl, hyr⟩)
                      have m0 : w7.cell? ⟨b, 0, none⟩ = _ := cell_of_block S7.box 0
                      have m1 : w7.cell? ⟨b, 1, none⟩ = _ := cell_of_block S7.box 1
                      have f0 := free_of_block S7.box 0
                      have f1 := free_of_block S7.box 1
                      dsimp at m0 m1
                      clear S6 hyr hy6 S7 hy7 hbn hbO S8 hy8 hB7 H6 HRS q0 q1
                      go_wp2_with fail
                      go_meet
                      case rel => exact HM.out
                    · by_cases h5 : m = 5
                      · subst h5
                        as_aux_lemma =>
                        obtain ⟨S4, hg4, hd4, hf4, hyr, hyo, hgw, hrx, hfo⟩ := H4.out
                        have hdr : Below w4.heap.size w4 w4.drew := (Below.refl _ _).drew
                        have S5 := S4.below hdr
                        have hf5 := hf4.below hdr
                        have HCR : Hid (Calls Try.prog 11 #[.pointer (some ⟨p, 0, none⟩), .slice fa A.fs.length fc] w4.drew fun e w' => e = .returned (.int .i64 D.uns.length) ∧ Dsk w' p r N (synced (crashed D A.fs)) ∧ Only (fun k => r k ≠ 0) w4.drew w') :=
                          crash_d _ A.fs S5.m.d hf5 (fun h j hj => S5.m.old (hfo h j hj)) (by omega)
                        have hg5 : w4.drew.heap[gx]? = _ := hg4
                        have H5 := Lib.hid (And.intro S5 (And.intro hg5 (And.intro hf5 (And.intro hyr (And.intro (own_belowb hyo hdr) (And.intro hrx.1 hfo))))))
                        clear S4 hg4 hd4 hf4 hyr hyo hgw hrx hfo hdr S5 hf5 hg5 q0 x1 x2 fq0 fq1 H4
                        go_wp2_with fail
                        go_region_held3 (fun w' => w'.cell? ⟨gx, 3, none⟩ = some (.slice fa A.fs.length fc) ∧ w'.cell? ⟨b, 1, none⟩ = some (.slice va D.uns.length vc)) (go_keep)
                          (first
                            | (go_at_call 11; refine Calls.mono HCR.out ?_; rintro e w6 ⟨rfl, hD6, hO6⟩
                               have i0 := cell_of_block (hO6.keep H5.out.2.1 (fun e => e H5.out.2.2.2.2.2.1)) 3
                               have i1 := cell_of_block (hO6.keep H5.out.1.box (fun e => e H5.out.1.rb.1)) 1
                               dsimp at i0 i1
                               have HD6 := Lib.hid hD6; have HO6 := Lib.hid hO6; clear hD6 hO6))
                        all_goals
                          obtain ⟨S5, hg5, hf5, hyr, hyo, hrx, hfo⟩ := H5.out
                          have S6 := S5.step HD6.out HO6.out (fun _ h => .inl h)
                          have hg6 := HO6.out.keep hg5 (fun e => e hrx)
                          have hf6 := fates_only hf5 HO6.out (fun h j hj e => e (S5.m.old (hfo h j hj)))
                          have hy6 := own_only hyo HO6.out (fun j hj e => e (hyr j hj).1)
                          have hwf := S5.m.d.wf
                          have hdr : Below w6.heap.size w6 w6.drew := (Below.refl _ _).drew
                          have HFA := Lib.hid (fates_is (hf6.below hdr) (by omega))
                          have HRC : Hid (∀ (w7 : World) (fv : Value), Below w6.heap.size w6 w7 → Fates w7 fv A.fs → Calls Try.prog 37 #[.agg #[.string (str8 D.dur), .slice va D.uns.length vc], fv] w7 fun e w' => e = .returned (.agg #[.string (str8 (synced (crashed D A.fs)).dur), .slice none 0 0]) ∧ Below w6.heap.size w6 w') := fun w7 fv hB hf =>
                            (rcrash_is D.dur (S6.rw.below hB) hf (by rw [hwf.dur]; exact hN6) (by rw [hwf.dur]; exact hwf.lie) hwf.few (by omega)).mono fun e w' ⟨he, hb⟩ => ⟨he, hB.trans (hb.mono hB.size)⟩
                          have y0 : w6.cell? ⟨b, 0, none⟩ = _ := cell_of_block S6.box 0
                          have y1 : w6.cell? ⟨b, 1, none⟩ = _ := cell_of_block S6.box 1
                          have y3 : w6.cell? ⟨gx, 3, none⟩ = _ := cell_of_block hg6 3
                          dsimp at y0 y1 y3
                          have hbl : b < w6.heap.size := lt_of_obj S6.box
                          have hgl : gx < w6.heap.size := lt_of_obj hg6
                          have H6 := Lib.hid (And.intro S6 (And.intro hyr hy6))
                          clear S5 hg5 hf5 hyr hyo hrx hfo S6 hg6 hf6 hy6 hwf hdr HD6 HO6 H5 HCR i0 i1 q1 x3
                          have HUN : Hid ((synced (crashed D A.fs)).uns = []) := rfl
                          generalize (synced (crashed D A.fs)) = D' at *
                          go_wp2_with fail
                          go_region_with (first
                            | (go_at_call 38; refine Calls.mono HFA.out ?_; rintro e w7 ⟨fv, rfl, hfo7, hB7⟩
                               obtain ⟨fo7, fc7, rfl⟩ := own_shape hfo7
                               have hB67 : Below w6.heap.size w6 w7 := (Below.refl w6.heap.size w6).drew.trans hB7
                               have z0 := (hB67.cell (p := ⟨b, 0, none⟩) hbl).trans y0; have z1 := (hB67.cell (p := ⟨b, 1, none⟩) hbl).trans y1
                               have HR7 := Lib.hid (HRC.out w7 _ hB67 (fates_own hfo7)); clear hfo7 hB7 hB67)
                            | (go_at_call 37; refine Calls.mono HR7.out ?_; rintro e w8 ⟨rfl, hB8⟩
                               have u0 := (hB8.cell (p := ⟨b, 0, none⟩) hbl).trans y0; have u1 := (hB8.cell (p := ⟨b, 1, none⟩) hbl).trans y1
                               have v0 := (hB8.frozen (p := ⟨b, 0, none⟩) hbl).trans (free_of_block H6.out.1.box 0); have v1 := (hB8.frozen (p := ⟨b, 1, none⟩) hbl).trans (free_of_block H6.out.1.box 1)
                               have HB8 := Lib.hid hB8; clear hB8))
                          all_goals
                            obtain ⟨S6, hyr, hy6⟩ := H6.out
                            have S7 := S6.below HB8.out
                            have hy7 := own_belowb hy6 HB8.out
                            obtain ⟨hbn, hbO⟩ := set2_blk S7.box (.string (str8 D'.dur)) (.slice none 0 0)
                            have S8 := S7.put (R' := D') hbn hbO (.inl ⟨rfl, HUN.out⟩) (fun j hj => by simp [Value.ownBlock] at hj)
                            have hy8 := own_only hy7 hbO (fun j hj e => by
                              obtain ⟨c, hc⟩ := row_type hy7 j hj
                              exact blk_ne hc S7.box (by decide) e)
                            have HM := Lib.hid (show QMid w p q b b2 s N D0 k (.slice ya A.ds.length yc) A.ds.length A.ds _ from ⟨r, D', _, by rw [HUN.out]; exact Nat.zero_le _, S8, hy8, rfl, hyr⟩)
                            clear S6 hyr hy6 S7 hy7 hbn hbO S8 hy8 HB8 H6 HRC HFA HR7 y0 y1 y3 z0 z1 u0 u1 v0 v1
                            go_wp2_with fail
                            go_meet
                            case rel => exact HM.out
                      · as_aux_lemma =>
                        have HM := Lib.hid (show QMid w p q b b2 s N D0 k (.slice ya A.ds.length yc) A.ds.length A.ds _ from ⟨r, D, _, by omega, H4.out.1, H4.out.2.2.2.2.2.1, rfl, H4.out.2.2.2.2.1⟩)
                        clear q0 q1 x1 x2 x3 fq0 fq1 H4
                        go_wp2_with fail
                        go_meet
                        case rel => exact HM.out
              case rest =>
                as_aux_lemma =>
                obtain ⟨r', D', v', hd', S', hy', _, hyr'⟩ := hcut
                have HQ := Lib.hid (And.intro S' (And.intro hy' hyr'))
                clear S' hy' hyr' H4
                obtain ⟨wc, rfl⟩ : ∃ w0 : World, w0 = wc := ⟨_, rfl⟩
                go_wp2_with fail
                go_loopw [20] (ORel wc (.slice ya A.ds.length yc) ya A.ds.length) (fun j _ => A.ds.length - (intOf j).toNat)
                case atStart => exact ⟨0, rfl, Nat.zero_le _, Only.refl _ _, (byt_own HQ.out.2.1 rfl).lower (Nat.zero_le _)⟩
                case round =>
                  obtain ⟨j, rfl, hj, hO, hbt⟩ := hrel
                  by_cases hjn : j < A.ds.length
                  · obtain ⟨g, cur, rfl, _, hcg, hz⟩ := hbt (by omega)
                    obtain ⟨z, hzj⟩ := hz j hjn
                    have y0 : wr.cell? ⟨g, j, none⟩ = some (.int .u8 z) := (cell_of_block hcg j).trans hzj
                    have y1 : wr.frozen? ⟨g, j, none⟩ = false := free_of_block hcg j
                    have HR : Hid (∀ x : Int, ORel wc (.slice (some ⟨g, 0, none⟩) A.ds.length yc) (some ⟨g, 0, none⟩) A.ds.length (.int .i64 (j + 1 : Nat)) (wr.setCell ⟨g, j, none⟩ (.int .u8 x))) := fun x => ⟨j + 1, rfl, hjn, hO.setCell (p := ⟨g, j, none⟩) (fun _ => rfl) _, hbt.set g j x⟩
                    clear hO hbt hcg hz hzj
                    go_wp2_with fail
                    go_roundw
                    case rel => first | exact HR.out _ | ((repeat apply Exists.intro); exact ⟨HR.out _, rfl⟩)
                    case measure => simp [intOf]; omega
                  · obtain ⟨S', hy', hyr'⟩ := HQ.out
                    have S10 := S'.other hO (own_ge hy') (fun k hk e => hk (hyr' k e).1) (fun k hk e => hk (hyr' k e).2) (fun e => by
                      obtain ⟨c, hc⟩ := row_type hy' _ e
                      exact blk_ne hc S'.box (by decide) rfl) (fun e => by
                      obtain ⟨c, hc⟩ := row_type hy' _ e
                      exact blk_ne hc S'.box2 (by decide) rfl) (fun i hi e => by
                      obtain ⟨c, hc⟩ := row_type hy' _ e
                      obtain ⟨c', hc'⟩ := S'.rw.ty i hi
                      exact blk_ne hc hc' (by decide) rfl)
                    have HS10 := Lib.hid S10
                    clear S' hy' hyr' S10 hO hbt HQ
                    obtain ⟨wt, rfl⟩ : ∃ wo : World, wo = wr := ⟨_, rfl⟩
                    have djn : decide ((j : Int) < (A.ds.length : Int)) = false := decide_eq_false (by omega)
                    go_wp2_with fail
                    go_loopw [21] (TRel wt) (fun t _ => 2 - (intOf t).toNat)
                    case atStart => exact ⟨0, rfl, Nat.zero_le _, Below.refl _ _⟩
                    case round =>
                      obtain ⟨t, rfl, ht, hBt⟩ := hrel
                      by_cases ht2 : t < 2
                      · as_aux_lemma =>
                        have SF := HS10.out.below hBt
                        obtain ⟨va, vc, ev⟩ := SF.rw.shape
                        subst ev
                        have hwf := SF.m.d.wf
                        have hlen : (partZ D'.dur N at_ n).length = (partZ D'.now N at_ n).length := partZ_len (by rw [hwf.dur, hwf.nowlen])
                        have HRd : Hid (Calls Try.prog 12 #[.pointer (some ⟨p, 0, none⟩), .int .i64 at_, .int .i64 n] wr (RdAny wr (partZ D'.now N at_ n) (partC N at_ n))) := read_any at_ n SF.m.d
                        have HNW : Hid (∀ w', Below wr.heap.size wr w' → Calls Try.prog 40 #[.agg #[.string (str8 D'.dur), .slice va D'.uns.length vc]] w' fun e w'' => e = .returned (.string (str8 D'.now)) ∧ Below w'.heap.size w' w'') := fun w' hB => by
                          rw [hwf.now]
                          exact rnow_is D'.dur (SF.rw.below hB) (by rw [hwf.dur]; exact hN6) (by rw [hwf.dur]; exact hwf.lie) hwf.few
                        have HPT1 : Hid (∀ w', Calls Try.prog 39 #[.agg #[.string (str8 D'.dur), .slice va D'.uns.length vc], .string (str8 D'.now), .int .i64 at_, .int .i64 n] w' (RdAny w' (nrm (partZ D'.now N at_ n)) (partC N at_ n))) := fun w' => rpart_any D'.dur D'.now va _ vc N at_ n hwf.dur hN6 hwf.nowlen w'
                        have HPT2 : Hid (∀ w', Calls Try.prog 39 #[.agg #[.string (str8 D'.dur), .slice va D'.uns.length vc], .string (str8 D'.dur), .int .i64 at_, .int .i64 n] w' (RdAny w' (nrm (partZ D'.dur N at_ n)) (partC N at_ n))) := fun w' => rpart_any D'.dur D'.dur va _ vc N at_ n hwf.dur hN6 hwf.dur w'
                        have HDU : Hid (∀ w', Below wr.heap.size wr w' → Calls Try.prog 15 #[.pointer (some ⟨p, 0, none⟩), .int .i64 at_, .int .i64 n] w' (RdAny w' (partZ D'.dur N at_ n) (partC N at_ n))) := fun w' hB => durable_any at_ n (SF.m.d.below hB)
                        have HS := Lib.hid SF
                        have HBT := Lib.hid hBt
                        have HWF := Lib.hid hwf
                        have hbl : b < wr.heap.size := lt_of_obj SF.box
                        have hb2l : b2 < wr.heap.size := lt_of_obj SF.box2
                        have b0 : wr.cell? ⟨b, 0, none⟩ = _ := cell_of_block SF.box 0
                        have b1 : wr.cell? ⟨b, 1, none⟩ = _ := cell_of_block SF.box 1
                        dsimp at b0 b1
                        have HBX : Hid (∀ w', Below wr.heap.size wr w' → w'.cell? ⟨b, 0, none⟩ = some (.string (str8 D'.dur)) ∧ w'.cell? ⟨b, 1, none⟩ = some (.slice va D'.uns.length vc)) := fun w' hB => ⟨(hB.cell (p := ⟨b, 0, none⟩) hbl).trans b0, (hB.cell (p := ⟨b, 1, none⟩) hbl).trans b1⟩
                        have HLEN := Lib.hid hlen
                        clear SF hBt hwf HS10 hlen b0 b1
                        have hzb : (partZ D'.now N at_ n).length ≤ 65536 := Nat.le_trans (partZ_le D'.now N at_ n) (by rw [HWF.out.nowlen]; exact hN6)
                        obtain ⟨zx, ezx⟩ : ∃ z, partZ D'.now N at_ n = z := ⟨_, rfl⟩
                        obtain ⟨zv, ezv⟩ : ∃ z, partZ D'.dur N at_ n = z := ⟨_, rfl⟩
                        obtain ⟨cc, ecc⟩ : ∃ z, partC N at_ n = z := ⟨_, rfl⟩
                        rw [ezx] at HRd HPT1 HLEN hzb
                        rw [ezv] at HPT2 HDU HLEN
                        rw [ecc] at HRd HPT1 HPT2 HDU
                        clear ezx ezv ecc
                        obtain ⟨wq, rfl⟩ : ∃ wo : World, wo = wr := ⟨_, rfl⟩
                        go_wp2_with fail
                        refine HRd.out.mono ?_
                        rintro e w2 ⟨xa, xc, rfl, hx, hB2⟩
                        have HX := Lib.hid hx
                        have HB2 := Lib.hid hB2
                        obtain ⟨b0, b1⟩ := HBX.out w2 hB2
                        clear hx hB2 HRd
                        go_wp2_with fail
                        go_region_held3 (fun w' => w'.cell? ⟨b, 0, none⟩ = some (.string (str8 D'.dur)) ∧ w'.cell? ⟨b, 1, none⟩ = some (.slice va D'.uns.length vc)) (go_keep)
                          (first
                            | (go_at_call 40; refine Calls.mono (HNW.out _ HB2.out.drew) ?_; rintro e w3 ⟨rfl, hB3⟩
                               have hB3' := HB2.out.drew.trans (hB3.mono HB2.out.size)
                               obtain ⟨i0, i1⟩ := HBX.out w3 hB3'
                               have HB32 : Hid (Below w2.heap.size w2 w3) := (Below.refl w2.heap.size w2).drew.trans hB3
                               have HB3 := Lib.hid hB3'; clear hB3 hB3')
                            | (go_at_call 39; refine Calls.mono (HPT1.out _) ?_; rintro e w4 ⟨pa, pk, rfl, hp, hB4⟩
                               have hB4' := HB3.out.trans (hB4.mono HB3.out.size)
                               obtain ⟨j0, j1⟩ := HBX.out w4 hB4'
                               have HB4 := Lib.hid hB4'; have HP := Lib.hid hp; have HB43 := Lib.hid hB4; clear hB4 hB4' hp))
                        all_goals
                          clear i0 i1 j0 j1 b0 b1
                          go_wp2_with fail
                          refine (HDU.out _ HB4.out).mono ?_
                          rintro e w5 ⟨da', dk, rfl, hd5, hB5⟩
                          have hB5' := HB4.out.trans (hB5.mono HB4.out.size)
                          obtain ⟨b0, b1⟩ := HBX.out w5 hB5'
                          have HD5 := Lib.hid hd5
                          have HB54 := Lib.hid hB5
                          have HB5 := Lib.hid hB5'
                          clear hd5 hB5 hB5' HDU
                          go_wp2_with fail
                          refine (HPT2.out _).mono ?_
                          rintro e w6 ⟨ra, rk, rfl, hr6, hB6⟩
                          have hB6' := HB5.out.trans (hB6.mono HB5.out.size)
                          have HR6 := Lib.hid hr6
                          have HB65 := Lib.hid hB6
                          have HB6 := Lib.hid hB6'
                          clear hr6 hB6 hB6' HPT2 b0 b1
                          go_wp2_with fail
                          refine (unsynced_d (HS.out.below HB6.out).m.d).mono ?_
                          rintro e w7 ⟨lv, F, ys, rfl, hl7, hB7⟩
                          obtain ⟨lo, lk, el⟩ := own_shape hl7.row
                          subst el
                          have hB7' := HB6.out.trans (hB7.mono HB6.out.size)
                          have S7 := HS.out.below hB7'
                          have h67 := HB65.out.trans (hB7.mono HB65.out.size)
                          have h57 := h67
                          have h47 := HB54.out.trans (h57.mono HB54.out.size)
                          have h37 := HB43.out.trans (h47.mono HB43.out.size)
                          have h27 := HB32.out.trans (h37.mono HB32.out.size)
                          have HNE : Hid (∀ g g2, xa = some ⟨g, 0, none⟩ → da' = some ⟨g2, 0, none⟩ → ¬ g = g2) := fun g g2 e1 e2 => by
                            have h1 := own_lt HX.out g (by rw [e1]; rfl)
                            have h2 := own_ge HD5.out g2 (by rw [e2]; rfl)
                            have h3 := HB32.out.size
                            have h4 := HB43.out.size
                            omega
                          have hbx := byt_own HX.out rfl
                          have hx7 := HX.out.holds.below h27
                          have hp7 := HP.out.holds.below h47
                          have hd7 := HD5.out.holds.below h57
                          have hr7 := HR6.out.holds.below hB7
                          have hbv := (byt_own HD5.out rfl).lower HB4.out.size
                          have hbu := hl7.urow.lower HB6.out.size
                          have HBYT := Lib.hid (And.intro (hbx.keep h27) (And.intro (hbv.keep h57) hbu))
                          have HSA : Hid (∀ z : Wld (fun x => Below w7.heap.size w7 x), Calls Try.prog 14 #[.slice xa zx.length xc, .slice pa (nrm zx).length pk] z.w fun e w' => e = .returned (.bool true) ∧ w' = z.w) := fun z => same_nrm _ _ zx _ (hx7.below z.ok) (hp7.below z.ok)
                          have HSB : Hid (∀ z : Wld (fun x => Below w7.heap.size w7 x), Calls Try.prog 14 #[.slice da' zv.length dk, .slice ra (nrm zv).length rk] z.w fun e w' => e = .returned (.bool true) ∧ w' = z.w) := fun z => same_nrm _ _ zv _ (hd7.below z.ok) (hr7.below z.ok)
                          have HSD : Hid (∀ z : Wld (fun x => Below w7.heap.size w7 x), Calls Try.prog 41 #[.pointer (some ⟨p, 0, none⟩), .agg #[.string (str8 D'.dur), .slice va D'.uns.length vc]] z.w fun x w' => x = .returned (.bool true) ∧ Below z.w.heap.size z.w w') := fun z => samedisk_is (S7.m.d.below z.ok) (S7.rw.below z.ok)
                          have HSM : Hid (∀ z : Wld (fun x => Below w7.heap.size w7 x), Calls Try.prog 19 #[.pointer (some ⟨p, 0, none⟩), .pointer (some ⟨q, 0, none⟩)] z.w fun x w' => x = .returned (.bool (sameB D' D0)) ∧ Below z.w.heap.size z.w w') := fun z => same_pp (S7.m.d.below z.ok) (S7.f.d.below z.ok)
                          have HRS : Hid (∀ z : Wld (fun x => Below w7.heap.size w7 x), Calls Try.prog 42 #[.agg #[.string (str8 D'.dur), .slice va D'.uns.length vc], .agg #[.string (str8 D0.dur), .slice none 0 0]] z.w fun x w' => x = .returned (.bool (sameB D' D0)) ∧ Below z.w.heap.size z.w w') := fun z => rsame_is D'.dur D0.dur (B := w.heap.size) (C := 0) (S7.rw.below z.ok) (.inl ⟨rfl, S7.nil0⟩) HWF.out.few
                          have hb7 := lt_of_obj S7.box
                          have hb27 := lt_of_obj S7.box2
                          have k0 : ∀ z : Wld (fun x => Below w7.heap.size w7 x), z.w.cell? ⟨b, 0, none⟩ = some (.string (str8 D'.dur)) := fun z => (z.ok.cell (p := ⟨b, 0, none⟩) hb7).trans (cell_of_block S7.box 0)
                          have k1 : ∀ z : Wld (fun x => Below w7.heap.size w7 x), z.w.cell? ⟨b, 1, none⟩ = some (.slice va D'.uns.length vc) := fun z => (z.ok.cell (p := ⟨b, 1, none⟩) hb7).trans (cell_of_block S7.box 1)
                          have k2 : ∀ z : Wld (fun x => Below w7.heap.size w7 x), z.w.cell? ⟨b2, 0, none⟩ = some (.string (str8 D0.dur)) := fun z => (z.ok.cell (p := ⟨b2, 0, none⟩) hb27).trans (cell_of_block S7.box2 0)
                          have k3 : ∀ z : Wld (fun x => Below w7.heap.size w7 x), z.w.cell? ⟨b2, 1, none⟩ = some (.slice none 0 0) := fun z => (z.ok.cell (p := ⟨b2, 1, none⟩) hb27).trans (cell_of_block S7.box2 1)
                          haveI hne : Nonempty (Wld (fun x => Below w7.heap.size w7 x)) := ⟨⟨w7, Below.refl _ _⟩⟩
                          have HB7 := Lib.hid hB7'
                          generalize sameB D' D0 = sb at *
                          clear hB7 hB7' S7 h67 h57 h47 h37 h27 hbx hx7 hp7 hd7 hr7 hbv hbu hb7 hb27 hl7 HX HP HD5 HR6 HB2 HB3 HB32 HB4 HB43 HB5 HB54 HB6 HB65 HBX HNW HPT1
                          go_wp2_with fail
                          refine region_class (fun x => Below w7.heap.size w7 x) (by kernel_rfl) (by kernel_rfl) (Below.refl _ _).drew ?_
                          repeat (go_big_quiet_step ((rename_i z; first
                            | (go_at_call 14; first | exact (HSA.out z).mono fun e w' ⟨he, hw⟩ => ⟨he, z, hw⟩ | exact (HSB.out z).mono fun e w' ⟨he, hw⟩ => ⟨he, z, hw⟩)
                            | (go_at_call 41; exact (HSD.out z).mono fun e w' ⟨he, hb⟩ => ⟨he, ⟨w', z.ok.trans (hb.mono z.ok.size)⟩, rfl⟩)
                            | (go_at_call 19; exact (HSM.out z).mono fun e w' ⟨he, hb⟩ => ⟨he, ⟨w', z.ok.trans (hb.mono z.ok.size)⟩, rfl⟩)
                            | (go_at_call 42; exact (HRS.out z).mono fun e w' ⟨he, hb⟩ => ⟨he, ⟨w', z.ok.trans (hb.mono z.ok.size)⟩, rfl⟩))))
                          refine wpQuiet_nil ?_
                          intro w8 hB8
                          have HB8 := Lib.hid (HB7.out.trans (hB8.mono HB7.out.size))
                          have HY8 := Lib.hid (And.intro (HBYT.out.1.keep hB8) (And.intro (HBYT.out.2.1.keep hB8) (HBYT.out.2.2.keep hB8)))
                          clear k0 k1 k2 k3 hne HSA HSB HSD HSM HRS hB8 HB7 HBYT
                          have hzl : zv.length = zx.length := HLEN.out
                          clear HLEN
                          as_aux_lemma =>
                          go_wp2_with fail
                          go_loopw [31] (XRel wq xa da' zx.length lo D'.uns) (fun j _ => zx.length - (intOf j).toNat)
                          case atStart => exact ⟨0, rfl, Nat.zero_le _, HB8.out, HY8.out.1, by rw [← hzl]; exact HY8.out.2.1, HY8.out.2.2⟩
                          case round =>
                            obtain ⟨j, rfl, hj, hB, hbx, hbv, hbu⟩ := hrel
                            by_cases hjn : j < zx.length
                            · obtain ⟨g, cur, rfl, hgb, hcg, hz⟩ := hbx (by omega)
                              obtain ⟨g2, cur2, rfl, hgb2, hcg2, hz2⟩ := hbv (by omega)
                              have hne := HNE.out g g2 rfl rfl
                              have hne' : ¬ g2 = g := fun e => hne e.symm
                              obtain ⟨z, hzj⟩ := hz j hjn
                              obtain ⟨z2, hzj2⟩ := hz2 j hjn
                              have y0 : wr.cell? ⟨g, j, none⟩ = some (.int .u8 z) := (cell_of_block hcg j).trans hzj
                              have y1 : wr.frozen? ⟨g, j, none⟩ = false := free_of_block hcg j
                              have y2 : wr.cell? ⟨g2, j, none⟩ = some (.int .u8 z2) := (cell_of_block hcg2 j).trans hzj2
                              have y3 : wr.frozen? ⟨g2, j, none⟩ = false := free_of_block hcg2 j
                              have hjv : j < zv.length := by omega
                              have HR : Hid (∀ X Y : Int, XRel wq (some ⟨g, 0, none⟩) (some ⟨g2, 0, none⟩) zx.length lo D'.uns (.int .i64 (j + 1 : Nat)) ((wr.setCell ⟨g, j, none⟩ (.int .u8 X)).setCell ⟨g2, j, none⟩ (.int .u8 Y))) := fun X Y =>
                                ⟨j + 1, rfl, hjn, (hB.setCell (p := ⟨g, j, none⟩) hgb _).setCell (p := ⟨g2, j, none⟩) hgb2 _, (hbx.set g j X).set g2 j Y, (hbv.set g j X).set g2 j Y, (hbu.set hcg j X).set ((setCell_block_other j (.int .u8 X) hne').trans hcg2) j Y⟩
                              clear hB hbx hbv hbu hcg hcg2 hz hz2 hzj hzj2 hzl HNE
                              go_wp2_with fail
                              go_roundw
                              case rel => first | exact HR.out _ _ | ((repeat apply Exists.intro); exact ⟨HR.out _ _, rfl⟩)
                              case measure => simp [intOf]; omega
                            · have HU := Lib.hid (And.intro hB hbu)
                              clear hB hbx hbv hbu HNE hzl
                              have djn : decide ((j : Int) < (zx.length : Int)) = false := decide_eq_false (by omega)
                              have hfew2 : D'.uns.length ≤ 1000000 := HWF.out.few
                              obtain ⟨wx, rfl⟩ : ∃ wo : World, wo = wr := ⟨_, rfl⟩
                              go_wp2_with fail
                              go_loopw [32] (UnRel wq lo D'.uns) (fun m _ => D'.uns.length - (intOf m).toNat)
                              case atStart => exact ⟨0, rfl, Nat.zero_le _, HU.out.1, HU.out.2⟩
                              case round =>
                                clear HU
                                obtain ⟨m, rfl, hm, hB, hbu⟩ := hrel
                                by_cases hmn : m < D'.uns.length
                                · obtain ⟨⟨a, d⟩, hxm⟩ : ∃ x, D'.uns[m]? = some x := ⟨_, List.getElem?_eq_getElem hmn⟩
                                  have hdl : d.length ≤ 65536 := by have := HWF.out.lie (a, d) (List.mem_of_getElem? hxm); simp only at this; omega
                                  have HXm := Lib.hid hxm
                                  have HU := Lib.hid (And.intro hB hbu)
                                  clear hB hbu hxm
                                  obtain ⟨wm, rfl⟩ : ∃ wo : World, wo = wr := ⟨_, rfl⟩
                                  have dmn : decide ((m : Int) < (D'.uns.length : Int)) = true := decide_eq_true (by omega)
                                  go_wp2_with fail
                                  go_loopw [33] (ZRel wq lo D'.uns d.length) (fun j _ => d.length - (intOf j).toNat)
                                  case atStart => exact ⟨0, rfl, Nat.zero_le _, HU.out.1, HU.out.2⟩
                                  case round =>
                                    clear HU
                                    obtain ⟨j2, rfl, hj2, hB, hbu⟩ := hrel
                                    obtain ⟨g, ya2, yc2, c2, rfl, hcg, hc1, hby⟩ := hbu m a d HXm.out
                                    by_cases hjd : j2 < d.length
                                    · obtain ⟨g2, cur, rfl, hgb, hcg2, hz⟩ := hby (by omega)
                                      obtain ⟨z, hzj⟩ := hz j2 hjd
                                      have y0 : wr.cell? ⟨g2, j2, none⟩ = some (.int .u8 z) := (cell_of_block hcg2 j2).trans hzj
                                      have y1 : wr.frozen? ⟨g2, j2, none⟩ = false := free_of_block hcg2 j2
                                      have HR : Hid (∀ X : Int, ZRel wq (some ⟨g, 0, none⟩) D'.uns d.length (.int .i64 (j2 + 1 : Nat)) (wr.setCell ⟨g2, j2, none⟩ (.int .u8 X))) := fun X =>
                                        ⟨j2 + 1, rfl, hjd, hB.setCell (p := ⟨g2, j2, none⟩) hgb _, hbu.set hcg2 j2 X⟩
                                      clear hB hbu hby hcg hcg2 hz hzj
                                      go_wp2_with fail
                                      go_roundw
                                      case rel => first | exact HR.out _ | ((repeat apply Exists.intro); exact ⟨HR.out _, rfl⟩)
                                      case measure => simp [intOf]; omega
                                    · have HR : Hid (UnRel wq (some ⟨g, 0, none⟩) D'.uns (.int .i64 (m + 1 : Nat)) wr) := ⟨m + 1, rfl, hmn, hB, hbu⟩
                                      clear hB hbu hby hcg
                                      go_wp2_with fail
                                      go_roundw
                                      case rel => first | exact HR.out | ((repeat apply Exists.intro); exact ⟨HR.out, rfl⟩)
                                      case measure => simp [intOf]; omega
                                · have HR : Hid (TRel wt (.int .i64 (t + 1 : Nat)) wr) := ⟨t + 1, rfl, by omega, HBT.out.trans (hB.mono HBT.out.size)⟩
                                  clear hB hbu
                                  go_wp2_with fail
                                  go_roundw
                                  case rel => first | exact HR.out | ((repeat apply Exists.intro); exact ⟨HR.out, rfl⟩)
                                  case measure => simp [intOf]; omega
                      · have SF := HS10.out.below hBt
                        have HSF := Lib.hid SF
                        clear SF hBt HS10
                        go_wp2_with fail
                        go_roundw
                        case rel => first | exact ⟨k + 1, r', D', v', by go_num, by omega, hd', HSF.out⟩ | ((repeat apply Exists.intro); exact ⟨⟨k + 1, r', D', v', by go_num, by omega, hd', HSF.out⟩, rfl⟩)
                        case measure => simp [intOf]; omega
            · as_aux_lemma =>
              obtain ⟨va, vc, ev⟩ := hS.rw.shape
              have hSD := samedisk_is hS.f.d (v := .slice none 0 0) (B := 0) (.inl ⟨rfl, hS.nil0⟩)
              unfold rd at hSD
              have y0 : wr.cell? ⟨b2, 0, none⟩ = _ := cell_of_block hS.box2 0
              have y1 : wr.cell? ⟨b2, 1, none⟩ = _ := cell_of_block hS.box2 1
              dsimp at y0 y1
              have HSD := Lib.hid hSD
              have HS := Lib.hid hS
              clear hSD hS ev
              go_wp2_with fail
              refine HSD.out.mono ?_
              rintro e w2 ⟨rfl, hB2⟩
              have M2 := HS.out.m.below hB2
              have HM2 := Lib.hid M2
              clear M2 hB2 HS HSD y0 y1
              go_wp2_with fail
              refine (copy_d HM2.out.d).mono ?_
              rintro e w3 ⟨q3, r3, rfl, hD3, hB3, hr3⟩
              have M3 := HM2.out.below hB3
              have hsm := same_pp M3.d hD3
              rw [sameB_refl] at hsm
              have HM3 := Lib.hid M3
              have HSM := Lib.hid hsm
              clear M3 hsm hD3 hB3 hr3 HM2
              go_wp2_with fail
              refine HSM.out.mono ?_
              rintro e w4 ⟨rfl, hB4⟩
              have HB4 := Lib.hid (HM3.out.bel.trans (hB4.mono HM3.out.bel.size))
              clear hB4 HM3 HSM
              go_wp2_with fail
              refine (works_any _).mono ?_
              rintro e w5 ⟨rfl, hB5⟩
              go_wp2_with fail
              go_ret
              exact ⟨rfl, HB4.out.trans (hB5.mono HB4.out.size)⟩
end Go.Proofs.Ytbgjahgmkbbgjaa

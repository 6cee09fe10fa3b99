/- FifoPlays, walked. -/
import Derived.Test.YtpnhdfingcfbnaaFr6
import Derived.Outline
import Derived.Deep.RegionHeld3
import Derived.Deep.DrawnRows
namespace Go.Proofs.Ytpnhdfingcfbnaa
open Go.RowKit

set_option maxRecDepth 100000 in
set_option maxHeartbeats 4000000 in
theorem plays_any (it sz : Int) (hsz : sz ≤ 9223372036854775807) (lv : Value) (l : List Act1) (w : World) (hl : IsActs w lv l) :
    Calls Try.prog 3 #[.int .i64 it, .int .i64 sz, lv] w fun e w' => e = .returned (.bool true) ∧ Below w.heap.size w w' := by
  obtain ⟨la, lc, elv, hlc⟩ := id hl
  have HLL := Lib.hid hl
  have HLC := Lib.hid hlc
  clear hl hlc
  subst elv
  by_cases hbad : it < 0 ∨ sz < 0 ∨ 65536 < it
  · have HBAD := Lib.hid hbad
    clear hbad
    go_enter Try.func3, Try.ntmps3
    go_wp2_with fail
    refine (few_any _ l _ HLL.out).mono ?_
    rintro e w' ⟨b, rfl, rfl, _⟩
    obtain ⟨w, rfl⟩ : ∃ w0 : World, w0 = w' := ⟨_, rfl⟩
    cases b with
    | false =>
      go_wp2_with fail
      refine (works_any _).mono ?_
      rintro e w' ⟨rfl, hB⟩
      go_wp2_with fail
      go_ret
      exact ⟨rfl, hB⟩
    | true =>
      go_wp2_with fail
      refine (new_bad it sz HBAD.out _).mono ?_
      rintro e w' ⟨rfl, rfl⟩
      obtain ⟨w, rfl⟩ : ∃ w0 : World, w0 = w' := ⟨_, rfl⟩
      go_wp2_with fail
      refine (rnew_bad it sz HBAD.out _).mono ?_
      rintro e w1 ⟨rfl, hB1⟩
      go_wp2_with fail
      refine (works_any _).mono ?_
      rintro e w2 ⟨rfl, hB2⟩
      go_wp2_with fail
      go_ret
      exact ⟨rfl, (hB1.trans ((Below.refl w1.heap.size w1).alloc (Nat.le_refl _) _ |>.mono hB1.size)).trans (hB2.mono (by have := hB1.size; simp; omega))⟩
  · obtain ⟨it, rfl⟩ : ∃ n : Nat, it = n := ⟨it.toNat, by omega⟩
    obtain ⟨sz, rfl⟩ : ∃ n : Nat, sz = n := ⟨sz.toNat, by omega⟩
    have hi : it ≤ 65536 := by omega
    have hs : sz ≤ 9223372036854775807 := by omega
    clear hbad hsz
    go_enter Try.func3, Try.ntmps3
    go_wp2_with fail
    refine (few_any _ l _ HLL.out).mono ?_
    rintro e w' ⟨b, rfl, rfl, hb⟩
    obtain ⟨w, rfl⟩ : ∃ w0 : World, w0 = w' := ⟨_, rfl⟩
    cases b with
    | false =>
      clear hb
      go_wp2_with fail
      refine (works_any _).mono ?_
      rintro e w' ⟨rfl, hB⟩
      go_wp2_with fail
      go_ret
      exact ⟨rfl, hB⟩
    | true =>
      have HF := Lib.hid (hb rfl)
      clear hb
      have hl60 : l.length ≤ 60 := HF.out.1
      go_wp2_with fail
      refine (new_q it sz hi hs _).mono ?_
      rintro e w1 ⟨p, r1, rfl, M1⟩
      have HM1 := Lib.hid M1
      clear M1
      go_wp2_with fail
      refine (rnew_ok it sz hi hs _).mono ?_
      rintro e w2 ⟨rfl, hB2⟩
      have M2 := HM1.out.below hB2
      have M3 := M2.alloc (.cells #[.slice none 0 0, .int .i64 it, .int .i64 sz, .int .u64 0] 32)
      have hS : PSt w (w2.alloc (.cells #[.slice none 0 0, .int .i64 it, .int .i64 sz, .int .u64 0] 32)) p w2.heap.size (.slice none 0 0) r1 (empty it sz) (empty it sz) :=
        ⟨M3, alloc_block_new w2 _, M2.bel.size, M2.q.zero (Nat.le_refl _), .inl ⟨rfl, rfl⟩, fun j hj => by simp [Value.ownBlock] at hj⟩
      have HS := Lib.hid hS
      clear hB2 M2 M3 hS HM1
      go_wp2_with fail
      go_loopw [11] (PRel w p w2.heap.size l.length) (fun i _ => l.length - (intOf i).toNat)
      case atStart => exact ⟨0, r1, empty it sz, _, rfl, Nat.zero_le _, Nat.zero_le _, HS.out⟩
      case round =>
        clear HS
        generalize w2.heap.size = b at *
        obtain ⟨k, r, Q, v, rfl, hk, hd, hS⟩ := hrel
        by_cases hlt : k < l.length
        · obtain ⟨lb, lo, rfl, hb, hA⟩ := HLC.out (by omega)
          obtain ⟨A, hAk⟩ : ∃ A, l[k]? = some A := ⟨_, List.getElem?_eq_getElem hlt⟩
          have hA1 := (hA k A hAk).below hb hS.m.bel
          obtain ⟨da, dc, ed, _⟩ := hA1.d
          have c0 := hA1.c0
          have c1 := hA1.c1
          have c2 := hA1.c2
          have c3 := hA1.c3
          rw [ed] at c3
          have hfew := HF.out.2 A (List.mem_of_getElem? hAk)
          have hlb : lb < wr.heap.size := Nat.lt_of_lt_of_le hb hS.m.bel.size
          have HS := Lib.hid hS
          have HA := Lib.hid hA1
          have HED := Lib.hid ed
          have HA0 := Lib.hid hA1.wno.1
          clear hS hA hA1 hAk ed hb
          go_wp2_with fail
          have hBx : Below wr.heap.size wr (wr.alloc (.cells #[.int .u64 A.no, .int .i64 A.size, .slice none 0 0] 37)).drew := ((Below.refl _ _).alloc (Nat.le_refl _) _).drew
          have hgx : (wr.alloc (.cells #[.int .u64 A.no, .int .i64 A.size, .slice none 0 0] 37)).drew.heap[wr.heap.size]? = _ := alloc_block_new wr (.cells #[.int .u64 A.no, .int .i64 A.size, .slice none 0 0] 37)
          have S3 := HS.out.below hBx
          have A3 := HA.out.below hlb hBx
          have hrx : r wr.heap.size = 0 := HS.out.m.q.zero (Nat.le_refl _)
          have hdb : 0 < A.ds.length → ∀ k, (Value.slice da A.ds.length dc).ownBlock = some k → k < wr.heap.size := fun h j hj => by
            have h1 := HA.out.d.lt h
            rw [HED.out] at h1
            exact h1 j hj
          refine region_tail 8 (by kernel_rfl) (by kernel_rfl) ?_
          simp only [List.take_succ_cons, List.take_zero, List.drop_succ_cons, List.drop_zero]
          have x2 : (wr.alloc (.cells #[.int .u64 A.no, .int .i64 A.size, .slice none 0 0] 37)).drew.cell? ⟨wr.heap.size, 2, none⟩ = some (.slice none 0 0) := cell_of_block hgx 2
          have d3 := A3.c3
          have d0 := A3.c0
          rw [HED.out] at d3
          have hy3 := A3.d
          rw [HED.out] at hy3
          generalize (wr.alloc (.cells #[.int .u64 A.no, .int .i64 A.size, .slice none 0 0] 37)).drew = w3 at *
          obtain ⟨gx, egx⟩ : ∃ t, wr.heap.size = t := ⟨_, rfl⟩
          rw [show (some (⟨wr.heap.size, 0, none⟩ : Addr)) = some ⟨gx, 0, none⟩ by rw [egx]]
          rw [egx] at hgx hrx x2 hlb hdb
          have HS3 := Lib.hid S3
          have HGX := Lib.hid hgx
          have HRX := Lib.hid hrx
          have HDB := Lib.hid hdb
          have HY3 := Lib.hid hy3
          have HGW : Hid (w.heap.size ≤ gx) := by rw [← egx]; exact HS.out.m.bel.size
          clear S3 A3 hgx hrx hdb hy3 egx hBx c0 c1 c2 c3 HED
          repeat still_step
          refine wpStill_nil ?_
          refine wpList_append_h8 rfl (.tmp 63) (.tmp 69) rfl rfl rfl HY3.out (by omega) ?_
          intro y w4 hy hB4
          obtain ⟨ya, yc, ey⟩ := own_shape hy
          subst ey
          have S4 := HS3.out.below hB4
          have hg4 := (hB4.block gx (lt_of_obj HGX.out)).trans HGX.out
          have e0 := (hB4.cell (p := ⟨lb, lo + k * 4, none⟩) (by have := lt_of_obj HGX.out; show lb < _; omega)).trans d0
          have hne : ¬ lb = gx := by omega
          have hne' : ¬ gx = lb := by omega
          have x24 : w4.cell? ⟨gx, 2, none⟩ = some (.slice none 0 0) := cell_of_block hg4 2
          have f24 : w4.frozen? ⟨gx, 2, none⟩ = false := free_of_block hg4 2
          have hst : (w4.setCell ⟨gx, 2, none⟩ (.slice ya A.ds.length yc)).heap[gx]? = some (.cells #[.int .u64 A.no, .int .i64 A.size, .slice ya A.ds.length yc] 37 (0, 0)) := setCell_block hg4 2 _
          have hO5 : Only (· = gx) w4 (w4.setCell ⟨gx, 2, none⟩ (.slice ya A.ds.length yc)) := Only.setCell (S := (· = gx)) (p := ⟨gx, 2, none⟩) (Only.refl _ _) (fun _ => rfl) _
          have hyg : ∀ j, (Value.slice ya A.ds.length yc).ownBlock = some j → j ≠ gx := fun j hj => by
            obtain ⟨c, hc⟩ := row_type hy j hj
            exact blk_ne hc hg4 (by decide)
          have S5 := S4.other hO5 (fun k e => by subst e; exact HGW.out) (fun k hk e => by subst e; exact hk HRX.out) (fun e => blk_ne S4.box hg4 (by decide) e) (fun j hj e => by
            obtain ⟨c, hc⟩ := S4.rl.ty j hj
            exact blk_ne hc hg4 (by decide) e)
          have hy5 : Own8 (w4.setCell ⟨gx, 2, none⟩ (.slice ya A.ds.length yc)) w3.heap.size (.slice ya A.ds.length yc) A.ds := own_only hy hO5 hyg
          have hry : ∀ j, (Value.slice ya A.ds.length yc).ownBlock = some j → r j = 0 := fun j hj => HS3.out.m.q.zero (own_ge hy j hj)
          have hyw : ∀ j, (Value.slice ya A.ds.length yc).ownBlock = some j → w.heap.size ≤ j := fun j hj => Nat.le_trans HS3.out.m.bel.size (own_ge hy j hj)
          have HS5 := Lib.hid S5
          have HG5 := Lib.hid hst
          have HY5 := Lib.hid hy5
          have HRY := Lib.hid hry
          have HYW := Lib.hid hyw
          clear S4 hg4 hst hO5 S5 hy5 hry hyg hy hB4 x2 d3 d0 HS3 HGX HDB HY3 HS HA hyw
          go_wp2_with fail
          refine (pick_any A.kind 8 (by omega) (by omega) _).mono ?_
          rintro e w' ⟨rfl, rfl⟩
          have hm8 := pickN_lt (i := A.kind) (n := 8) (by omega)
          generalize pickN A.kind 8 = m at *
          generalize w4.setCell ⟨gx, 2, none⟩ (.slice ya A.ds.length yc) = w5 at *
          obtain ⟨no, eno⟩ : ∃ n : Nat, A.no = n := ⟨A.no.toNat, by have := HA0.out; omega⟩
          rw [eno] at HG5
          clear e0 x24 f24 hne hne' eno
          go_upto_block 2 with (fail)
          go_cut [13] (fun _ w' => PMid w p b k w')
          case first =>
            refine wp_block ?_
            refine wp_seq_k ?_
            intro KK hKK
            go_cut [105] (fun v w' => v = .bool (decide (4 ≤ m ∧ m ≤ 5)) ∧ w' = w5)
            case first =>
              by_cases h4 : m = 4
              · subst h4
                go_wp2_with fail
                go_meet
                case rel => exact ⟨rfl, rfl⟩
              · by_cases h5 : m = 5
                · subst h5
                  go_wp2_with fail
                  go_meet
                  case rel => exact ⟨rfl, rfl⟩
                · go_wp2_with fail
                  go_meet
                  case rel => exact ⟨by rw [decide_eq_false (show ¬ (4 ≤ m ∧ m ≤ 5) by omega)]; exact congrArg Value.bool (by simp; omega), rfl⟩
            case rest =>
              obtain ⟨rfl, rfl⟩ := hcut
              obtain ⟨w5, rfl⟩ : ∃ w0 : World, w0 = wc := ⟨_, rfl⟩
              have hbx := HS5.out.box
              have q0 : w5.cell? ⟨b, 0, none⟩ = _ := cell_of_block hbx 0
              have q1 : w5.cell? ⟨b, 1, none⟩ = _ := cell_of_block hbx 1
              have q2 : w5.cell? ⟨b, 2, none⟩ = _ := cell_of_block hbx 2
              have q3 : w5.cell? ⟨b, 3, none⟩ = _ := cell_of_block hbx 3
              dsimp at q0 q1 q2 q3
              clear hbx
              by_cases h45 : 4 ≤ m ∧ m ≤ 5
              · rw [decide_eq_true h45]
                have HR5 := Lib.hid (rpop_all HS5.out.rl)
                unfold rq at HR5
                go_wp2_with fail
                refine HR5.out.mono ?_
                rintro e w6 ⟨a6, k6, rfl, hR6, hB6, hv6⟩
                have hB7 : Below w5.heap.size w5 ((w6.alloc (.cells #[.slice a6 (popA Q).L.length k6, .int .i64 Q.items, .int .i64 Q.bound, .int .u64 Q.drops] 32)).alloc (.cells #[.int .u64 (hdIt Q.L).no, .int .i64 (hdIt Q.L).size, .string (str8 (hdIt Q.L).data)] 42)) := hB6.trans ((((Below.refl w6.heap.size w6).alloc (Nat.le_refl _) _).alloc (by simp) _).mono hB6.size)
                have hz : ((w6.alloc (.cells #[.slice a6 (popA Q).L.length k6, .int .i64 Q.items, .int .i64 Q.bound, .int .u64 Q.drops] 32)).alloc (.cells #[.int .u64 (hdIt Q.L).no, .int .i64 (hdIt Q.L).size, .string (str8 (hdIt Q.L).data)] 42)).heap[w6.heap.size]? = some (.cells #[.slice a6 (popA Q).L.length k6, .int .i64 Q.items, .int .i64 Q.bound, .int .u64 Q.drops] 32 (0, 0)) := (alloc_block_old _ (by simp)).trans (alloc_block_new w6 _)
                have hz' : ((w6.alloc (.cells #[.slice a6 (popA Q).L.length k6, .int .i64 Q.items, .int .i64 Q.bound, .int .u64 Q.drops] 32)).alloc (.cells #[.int .u64 (hdIt Q.L).no, .int .i64 (hdIt Q.L).size, .string (str8 (hdIt Q.L).data)] 42)).heap[w6.heap.size + 1]? = some (.cells #[.int .u64 (hdIt Q.L).no, .int .i64 (hdIt Q.L).size, .string (str8 (hdIt Q.L).data)] 42 (0, 0)) := alloc_block_at _ _ (by simp)
                have hR7 := hR6.below (((Below.refl w6.heap.size w6).alloc (Nat.le_refl _) (.cells #[.slice a6 (popA Q).L.length k6, .int .i64 Q.items, .int .i64 Q.bound, .int .u64 Q.drops] 32)).alloc (by simp) (.cells #[.int .u64 (hdIt Q.L).no, .int .i64 (hdIt Q.L).size, .string (str8 (hdIt Q.L).data)] 42))
                have S7 := HS5.out.below hB7
                have hq6 : w5.heap.size ≤ w6.heap.size := hB6.size
                have HPO := Lib.hid (pop_any S7.m.q)
                have H7 := Lib.hid (And.intro S7 (And.intro hz (And.intro hz' (And.intro hR7 hv6))))
                clear q0 q1 q2 q3 hR6 hB6 hv6 hB7 hz hz' hR7 S7 HR5
                go_wp2_with fail
                refine HPO.out.mono ?_
                rintro e w8 ⟨a8, c8, rfl, hy8, hQ8, hO8⟩
                obtain ⟨S7, hz, hz', hR7, hv6⟩ := H7.out
                have hr6 : r w6.heap.size = 0 := HS5.out.m.q.zero hq6
                have hr6' : r (w6.heap.size + 1) = 0 := HS5.out.m.q.zero (by omega)
                have S8 := S7.q hQ8 hO8 (fun _ h => .inl h)
                have hR8 := hR7.keep hO8 (fun j hj e => e (HS5.out.vr j (hv6 j hj)))
                have hz8 := hO8.keep hz (fun e => e hr6)
                have hz8' := hO8.keep hz' (fun e => e hr6')
                generalize w6.heap.size + 1 = g14 at *
                generalize w6.heap.size = g13 at *
                have hvr : ∀ j, (Value.slice a6 (popA Q).L.length k6).ownBlock = some j → r j = 0 := fun j hj => HS5.out.vr j (hv6 j hj)
                clear hr6 hr6' S7 hz hz' hR7 hv6 hQ8 hO8 HPO H7 hq6
                have hB9 : Below w8.heap.size w8 (w8.alloc (.cells #[.int .u64 (hdIt Q.L).no, .int .i64 (hdIt Q.L).size, .slice a8 (hdIt Q.L).data.length c8] 37)) := (Below.refl _ _).alloc (Nat.le_refl _) _
                have hz9 := alloc_block_new w8 (.cells #[.int .u64 (hdIt Q.L).no, .int .i64 (hdIt Q.L).size, .slice a8 (hdIt Q.L).data.length c8] 37)
                have S9 := S8.below hB9
                have hR9 := hR8.below hB9
                have hy9 := hy8.below hB9
                have hz9a := (hB9.block g13 (lt_of_obj hz8)).trans hz8
                have hz9b := (hB9.block g14 (lt_of_obj hz8')).trans hz8'
                have H9 := Lib.hid (And.intro S9 (And.intro hR9 (And.intro hz9a (And.intro hz9b (And.intro hz9 hy9)))))
                clear S8 hR8 hz8 hz8' hy8 hB9 hz9 S9 hR9 hy9 hz9a hz9b
                go_wp2_with fail
                obtain ⟨S9, hR9, hz9a, hz9b, hz9, hy9⟩ := H9.out
                generalize hdIt Q.L = x at *
                generalize hdB Q.L = bb at *
                generalize (w8.alloc (.cells #[.int .u64 x.no, .int .i64 x.size, .slice a8 x.data.length c8] 37)) = w9 at *
                generalize w8.heap.size = g16 at *
                have cl : ∀ (x : Wld (fun x => Below w9.heap.size w9 x)) (b i : Nat), b < w9.heap.size → x.w.cell? ⟨b, i, none⟩ = w9.cell? ⟨b, i, none⟩ := fun x b i hb => x.ok.cell (p := ⟨b, i, none⟩) hb
                have k0 : ∀ z : Wld (fun x => Below w9.heap.size w9 x), z.w.cell? ⟨g16, 0, none⟩ = some (.int .u64 x.no) := fun z => (cl z _ _ (lt_of_obj hz9)).trans (cell_of_block hz9 0)
                have k1 : ∀ z : Wld (fun x => Below w9.heap.size w9 x), z.w.cell? ⟨g16, 1, none⟩ = some (.int .i64 x.size) := fun z => (cl z _ _ (lt_of_obj hz9)).trans (cell_of_block hz9 1)
                have k2 : ∀ z : Wld (fun x => Below w9.heap.size w9 x), z.w.cell? ⟨g16, 2, none⟩ = some (.slice a8 x.data.length c8) := fun z => (cl z _ _ (lt_of_obj hz9)).trans (cell_of_block hz9 2)
                have k3 : ∀ z : Wld (fun x => Below w9.heap.size w9 x), z.w.cell? ⟨g14, 0, none⟩ = some (.int .u64 x.no) := fun z => (cl z _ _ (lt_of_obj hz9b)).trans (cell_of_block hz9b 0)
                have k4 : ∀ z : Wld (fun x => Below w9.heap.size w9 x), z.w.cell? ⟨g14, 1, none⟩ = some (.int .i64 x.size) := fun z => (cl z _ _ (lt_of_obj hz9b)).trans (cell_of_block hz9b 1)
                have k5 : ∀ z : Wld (fun x => Below w9.heap.size w9 x), z.w.cell? ⟨g14, 2, none⟩ = some (.string (str8 x.data)) := fun z => (cl z _ _ (lt_of_obj hz9b)).trans (cell_of_block hz9b 2)
                have HIT : Hid (∀ z : Wld (fun x => Below w9.heap.size w9 x), Calls Try.prog 14 #[.agg #[.int .u64 x.no, .int .i64 x.size, .slice a8 x.data.length c8]] z.w fun e w' => e = .returned (.agg #[.int .u64 x.no, .int .i64 x.size, .string (str8 x.data)]) ∧ Below z.w.heap.size z.w w') := fun z => item_is _ _ _ _ _ (hy9.below z.ok)
                haveI hne : Nonempty (Wld (fun x => Below w9.heap.size w9 x)) := ⟨⟨w9, Below.refl _ _⟩⟩
                have H9' := Lib.hid (And.intro S9 (And.intro hR9 hz9a))
                clear cl S9 hR9 hz9a hz9b hz9 hy9 H9
                refine region_class (fun x => Below w9.heap.size w9 x) (by kernel_rfl) (by kernel_rfl) (Below.refl _ _).drew ?_
                repeat (go_big_quiet_step ((rename_i z; go_at_call 14; exact (HIT.out z).mono fun e w' ⟨he, hb⟩ => ⟨he, ⟨w', z.ok.trans (hb.mono z.ok.size)⟩, rfl⟩)))
                refine wpQuiet_nil ?_
                intro w10 hB10
                obtain ⟨S9, hR9, hz9⟩ := H9'.out
                have S10 := S9.below hB10
                have hR10 := hR9.below hB10
                have hz10 := (hB10.block g13 (lt_of_obj hz9)).trans hz9
                have n0 : w10.cell? ⟨g13, 0, none⟩ = _ := cell_of_block hz10 0
                have n1 : w10.cell? ⟨g13, 1, none⟩ = _ := cell_of_block hz10 1
                have n2 : w10.cell? ⟨g13, 2, none⟩ = _ := cell_of_block hz10 2
                have n3 : w10.cell? ⟨g13, 3, none⟩ = _ := cell_of_block hz10 3
                have q0 : w10.cell? ⟨b, 0, none⟩ = _ := cell_of_block S10.box 0
                have q1 : w10.cell? ⟨b, 1, none⟩ = _ := cell_of_block S10.box 1
                have q2 : w10.cell? ⟨b, 2, none⟩ = _ := cell_of_block S10.box 2
                have q3 : w10.cell? ⟨b, 3, none⟩ = _ := cell_of_block S10.box 3
                have f0 := free_of_block S10.box 0
                have f1 := free_of_block S10.box 1
                have f2 := free_of_block S10.box 2
                have f3 := free_of_block S10.box 3
                dsimp at n0 n1 n2 n3 q0 q1 q2 q3
                obtain ⟨hbn, hbO⟩ := set4_block S10.box (.slice a6 (popA Q).L.length k6) (.int .i64 Q.items) (.int .i64 Q.bound) (.int .u64 Q.drops)
                have S11 := S10.put (R' := popA Q) hbn hbO hR10 hvr
                have HM := Lib.hid (show PMid w p b k _ from ⟨r, popA Q, _, by show Q.drops ≤ _; omega, S11⟩)
                clear k0 k1 k2 k3 k4 k5 hne HIT H9' hB10 S9 hR9 hz9 S10 hR10 hz10 hbn hbO S11 hvr HS5 HG5 HY5 HRY HYW HRX
                go_wp2_with fail
                go_meet
                case rel => exact HM.out
              · rw [decide_eq_false h45]
                have h4 : ¬ m = 4 := by omega
                have h5 : ¬ m = 5 := by omega
                have x0 : w5.cell? ⟨gx, 0, none⟩ = _ := cell_of_block HG5.out 0
                have x1 : w5.cell? ⟨gx, 1, none⟩ = _ := cell_of_block HG5.out 1
                have x2 : w5.cell? ⟨gx, 2, none⟩ = _ := cell_of_block HG5.out 2
                dsimp at x0 x1 x2
                clear h45
                by_cases h6 : m = 6
                · subst h6
                  have hRQ : RQ w5 w.heap.size v Q := HS5.out.rq
                  have HRO : Hid (∀ z : Wld (fun x => Below w5.heap.size w5 x), Calls Try.prog 15 #[.pointer (some ⟨p, 0, none⟩), .int .i64 A.size] z.w fun e w' => e = .returned (.bool (roomB Q A.size)) ∧ ∃ n, w' = z.w.drewN n) := fun z => room_q A.size (HS5.out.below z.ok).m.q
                  have HRR : Hid (∀ z : Wld (fun x => Below w5.heap.size w5 x), Calls Try.prog 16 #[.agg #[v, .int .i64 Q.items, .int .i64 Q.bound, .int .u64 Q.drops], .int .i64 A.size] z.w fun e w' => e = .returned (.bool (roomB Q A.size)) ∧ Below z.w.heap.size z.w w') := fun z => rroom_is (hRQ.rl.below z.ok) hRQ.len hRQ.its hRQ.sum hRQ.bnd A.size
                  have hbl : b < w5.heap.size := lt_of_obj HS5.out.box
                  have hgl : gx < w5.heap.size := lt_of_obj HG5.out
                  have cl : ∀ (x : Wld (fun x => Below w5.heap.size w5 x)) (b i : Nat), b < w5.heap.size → x.w.cell? ⟨b, i, none⟩ = w5.cell? ⟨b, i, none⟩ := fun x b i hb => x.ok.cell (p := ⟨b, i, none⟩) hb
                  have k0 : ∀ z : Wld (fun x => Below w5.heap.size w5 x), z.w.cell? ⟨b, 0, none⟩ = some v := fun z => (cl z _ _ hbl).trans q0
                  have k1 : ∀ z : Wld (fun x => Below w5.heap.size w5 x), z.w.cell? ⟨b, 1, none⟩ = some (.int .i64 Q.items) := fun z => (cl z _ _ hbl).trans q1
                  have k2 : ∀ z : Wld (fun x => Below w5.heap.size w5 x), z.w.cell? ⟨b, 2, none⟩ = some (.int .i64 Q.bound) := fun z => (cl z _ _ hbl).trans q2
                  have k3 : ∀ z : Wld (fun x => Below w5.heap.size w5 x), z.w.cell? ⟨b, 3, none⟩ = some (.int .u64 Q.drops) := fun z => (cl z _ _ hbl).trans q3
                  have k4 : ∀ z : Wld (fun x => Below w5.heap.size w5 x), z.w.cell? ⟨gx, 1, none⟩ = some (.int .i64 A.size) := fun z => (cl z _ _ hgl).trans x1
                  haveI hne : Nonempty (Wld (fun x => Below w5.heap.size w5 x)) := ⟨⟨w5, Below.refl _ _⟩⟩
                  clear cl hRQ q0 q1 q2 q3 x0 x1 x2
                  generalize roomB Q A.size = rb at *
                  go_wp2_with fail
                  refine region_class (fun x => Below w5.heap.size w5 x) (by kernel_rfl) (by kernel_rfl) (Below.refl _ _).drew ?_
                  repeat (go_big_quiet_step ((rename_i z; first
                    | (go_at_call 15; exact (HRO.out z).mono fun e w' ⟨he, n, hn⟩ => ⟨he, ⟨w', by rw [hn]; exact z.ok.trans (below_drewN (Below.refl _ _) n |>.mono z.ok.size)⟩, rfl⟩)
                    | (go_at_call 16; exact (HRR.out z).mono fun e w' ⟨he, hb⟩ => ⟨he, ⟨w', z.ok.trans (hb.mono z.ok.size)⟩, rfl⟩))))
                  refine wpQuiet_nil ?_
                  intro w10 hB10
                  have HM := Lib.hid (show PMid w p b k _ from ⟨r, Q, _, by omega, HS5.out.below hB10⟩)
                  clear k0 k1 k2 k3 k4 hne HRO HRR hB10 HS5 HG5 HY5 HRY HYW HRX
                  go_wp2_with fail
                  go_meet
                  case rel => exact HM.out
                · by_cases h7 : m = 7
                  · subst h7
                    by_cases h16 : no % 16 = 0
                    · have e16 : ((no : Int) % 16 == 0) = true := by simp; omega
                      have HS5d := Lib.hid (HS5.out.below (Below.refl w5.heap.size w5).drew)
                      obtain ⟨va, vc, ev⟩ := HS5.out.rl.shape
                      rw [ev] at q0
                      clear x1 x2 q1 q2 q3 HG5 HY5 HRY HYW HRX HS5 h16
                      go_wp2_with fail
                      go_region_held3 (fun w' => w'.cell? ⟨b, 0, none⟩ = some (.slice va Q.L.length vc)) (go_keep)
                        (first
                          | (go_at_call 17; refine Calls.mono (clear_q HS5d.out.m.q) ?_; rintro e w6 ⟨rfl, hQ6, hO6⟩; have q06 := (hO6.keep HS5d.out.box (fun e => e HS5d.out.rb)); have q07 := cell_of_block q06 0; rw [ev] at q07; dsimp at q07; have HQ6 := Lib.hid hQ6; have HO6 := Lib.hid hO6; clear hQ6 hO6 q06))
                      all_goals
                        have S6 := HS5d.out.q HQ6.out HO6.out (fun _ h => .inl h)
                        obtain ⟨hbn, hbO⟩ := set1_block S6.box (.slice none 0 0)
                        have S7 := S6.put (R' := cleared Q) hbn hbO (.inl ⟨rfl, rfl⟩) (fun j hj => by simp [Value.ownBlock] at hj)
                        have f0 := free_of_block S6.box 0
                        have HM := Lib.hid (show PMid w p b k _ from ⟨r, cleared Q, _, by show Q.drops ≤ _; omega, S7⟩)
                        clear S6 S7 hbn hbO HS5d HQ6 HO6 q0
                        go_wp2_with fail
                        go_meet
                        case rel => exact HM.out
                    · have e16 : ((no : Int) % 16 == 0) = false := by simp; omega
                      have HM := Lib.hid (show PMid w p b k _ from ⟨r, Q, _, by omega, HS5.out⟩)
                      clear q0 q1 q2 q3 x1 x2 HG5 HY5 HRY HYW HRX HS5 h16
                      go_wp2_with fail
                      go_meet
                      case rel => exact HM.out
                  · have hS5 := HS5.out
                    have HIT : Hid (∀ w', Below w5.heap.size w5 w' → Calls Try.prog 14 #[.agg #[.int .u64 no, .int .i64 A.size, .slice ya A.ds.length yc]] w' fun e w'' => e = .returned (.agg #[.int .u64 no, .int .i64 A.size, .string (str8 A.ds)]) ∧ Below w5.heap.size w5 w'' ∧ Below w'.heap.size w' w'') := fun w' hB => (item_is no A.size _ A.ds w' (HY5.out.holds.below hB)).mono fun e w'' ⟨he, h⟩ => ⟨he, hB.trans (h.mono hB.size), h⟩
                    have HPU : Hid (∀ w', Below w5.heap.size w5 w' → Calls Try.prog 18 #[.agg #[v, .int .i64 Q.items, .int .i64 Q.bound, .int .u64 Q.drops], .agg #[.int .u64 no, .int .i64 A.size, .string (str8 A.ds)]] w' fun e w'' => ∃ a k, e = .returned (.tuple #[.agg #[.slice a (pushA Q no A.size A.ds).L.length k, .int .i64 (pushA Q no A.size A.ds).items, .int .i64 (pushA Q no A.size A.ds).bound, .int .u64 (pushA Q no A.size A.ds).drops], .int .i64 (pushC Q A.size)]) ∧
                        RL w'' w.heap.size (.slice a (pushA Q no A.size A.ds).L.length k) (pushA Q no A.size A.ds).L ∧ Below w5.heap.size w5 w'' ∧ Below w'.heap.size w' w'' ∧ ∀ j, (Value.slice a (pushA Q no A.size A.ds).L.length k).ownBlock = some j → v.ownBlock = some j ∨ w5.heap.size ≤ j) := fun w' hB =>
                      (rpush_any no A.size A.ds ((hS5.rq).below hB) (Nat.le_trans hS5.m.bel.size hB.size) (by omega)).mono fun e w'' ⟨a, k, he, hR, hB', hj⟩ => ⟨a, k, he, hR, hB.trans (hB'.mono hB.size), hB', fun j h => (hj j h).imp id (fun h => Nat.le_trans hB.size h)⟩
                    have HPQ : Hid (∀ w', Below w5.heap.size w5 w' → Calls Try.prog 19 #[.pointer (some ⟨p, 0, none⟩), .agg #[.int .u64 no, .int .i64 A.size, .slice ya A.ds.length yc]] w' (PushAny w' p r (pushA Q no A.size A.ds) (pushC Q A.size))) := fun w' hB =>
                      push_any no A.size _ A.ds (hS5.below hB).m.q (HY5.out.holds.below hB) (fun _ => HRY.out) (by omega) (by omega)
                    have hbl : b < w5.heap.size := lt_of_obj HS5.out.box
                    have hgl : gx < w5.heap.size := lt_of_obj HG5.out
                    have hpb := pushA_bounds Q no A.size A.ds
                    have HPB := Lib.hid hpb
                    generalize hQ' : pushA Q no A.size A.ds = Q' at *
                    generalize hc' : pushC Q A.size = c' at *
                    clear hQ' hc' hpb hS5
                    have ne5 : ¬ b = w5.heap.size := by omega
                    have ne6 : ¬ w5.heap.size = b := by omega
                    have ne7 : ¬ gx = w5.heap.size := by omega
                    have ne8 : ¬ w5.heap.size = gx := by omega
                    have e6 : ((m : Int) == 6) = false := by simp; omega
                    have e7 : ((m : Int) == 7) = false := by simp; omega
                    go_upto_region 16 with (fail)
                    go_cut [18, 19] (DRel w w5 v Q' c')
                    case first =>
                      go_region_held3 (fun w' => (w'.cell? ⟨b, 0, none⟩ = some v ∧ w'.cell? ⟨b, 1, none⟩ = some (.int .i64 Q.items) ∧ w'.cell? ⟨b, 2, none⟩ = some (.int .i64 Q.bound) ∧ w'.cell? ⟨b, 3, none⟩ = some (.int .u64 Q.drops)) ∧ w'.cell? ⟨gx, 0, none⟩ = some (.int .u64 no) ∧ w'.cell? ⟨gx, 1, none⟩ = some (.int .i64 A.size) ∧ w'.cell? ⟨gx, 2, none⟩ = some (.slice ya A.ds.length yc)) (go_keep)
                        (first
                          | (go_at_call 14; refine Calls.mono (HIT.out _ ?_) ?_
                             · first | exact (Below.refl _ _).drew | exact ((Below.refl _ _).alloc (Nat.le_refl _) _).drew
                             rintro e w6 ⟨rfl, hB6, hBn⟩
                             first
                               | (have HN := Lib.hid (new_in hBn)
                                  have t0 := cell_of_block HN.out 0; have t1 := cell_of_block HN.out 1; have t2 := cell_of_block HN.out 2; have t3 := cell_of_block HN.out 3
                                  dsimp at t0 t1 t2 t3)
                               | skip
                             clear hBn
                             have i0 := (hB6.cell (p := ⟨b, 0, none⟩) hbl).trans q0; have i1 := (hB6.cell (p := ⟨b, 1, none⟩) hbl).trans q1; have i2 := (hB6.cell (p := ⟨b, 2, none⟩) hbl).trans q2; have i3 := (hB6.cell (p := ⟨b, 3, none⟩) hbl).trans q3
                             have i4 := (hB6.cell (p := ⟨gx, 0, none⟩) hgl).trans x0; have i5 := (hB6.cell (p := ⟨gx, 1, none⟩) hgl).trans x1; have i6 := (hB6.cell (p := ⟨gx, 2, none⟩) hgl).trans x2
                             have hs6 := hB6.size
                             have ne1 : ¬ b = w6.heap.size := by omega
                             have ne2 : ¬ w6.heap.size = b := by omega
                             have ne3 : ¬ gx = w6.heap.size := by omega
                             have ne4 : ¬ w6.heap.size = gx := by omega
                             have HB6 := Lib.hid hB6; clear hB6)
                          | (go_at_call 18; refine Calls.mono (HPU.out _ ?_) ?_
                             · first | exact HB6.out | exact HB6.out.trans (((Below.refl _ _).alloc (Nat.le_refl _) _).mono HB6.out.size)
                             rintro e w7 ⟨a7, k7, rfl, hR7, hB7, hBn, hj7⟩
                             first
                               | (have HN7 := Lib.hid (new_in' hBn)
                                  have t0 := cell_of_block HN7.out 0; have t1 := cell_of_block HN7.out 1; have t2 := cell_of_block HN7.out 2; have t3 := cell_of_block HN7.out 3
                                  have f0 := free_of_block HN7.out 0; have f1 := free_of_block HN7.out 1; have f2 := free_of_block HN7.out 2; have f3 := free_of_block HN7.out 3
                                  dsimp at t0 t1 t2 t3)
                               | (have HN7 := Lib.hid ((hBn.block _ (lt_of_obj HN.out)).trans HN.out)
                                  clear t0 t1 t2 t3
                                  have t0 := cell_of_block HN7.out 0; have t1 := cell_of_block HN7.out 1; have t2 := cell_of_block HN7.out 2; have t3 := cell_of_block HN7.out 3
                                  have f0 := free_of_block HN7.out 0; have f1 := free_of_block HN7.out 1; have f2 := free_of_block HN7.out 2; have f3 := free_of_block HN7.out 3
                                  dsimp at t0 t1 t2 t3)
                               | skip
                             clear hBn
                             have i0 := (hB7.cell (p := ⟨b, 0, none⟩) hbl).trans q0; have i1 := (hB7.cell (p := ⟨b, 1, none⟩) hbl).trans q1; have i2 := (hB7.cell (p := ⟨b, 2, none⟩) hbl).trans q2; have i3 := (hB7.cell (p := ⟨b, 3, none⟩) hbl).trans q3
                             have i4 := (hB7.cell (p := ⟨gx, 0, none⟩) hgl).trans x0; have i5 := (hB7.cell (p := ⟨gx, 1, none⟩) hgl).trans x1; have i6 := (hB7.cell (p := ⟨gx, 2, none⟩) hgl).trans x2
                             have H7 := Lib.hid (And.intro hR7 (And.intro hB7 hj7)); clear hR7 hB7 hj7))
                      all_goals
                        clear ne1 ne2 ne3 ne4 ne5 ne6 ne7 ne8 i0 i1 i2 i3 i4 i5 i6
                        obtain ⟨hR7, hB7, hj7⟩ := H7.out
                        go_wp2_with fail
                        go_meet
                        case rel =>
                          first
                            | exact ⟨_, a7, k7, rfl, rfl, alloc_block_new w7 _, hR7.below ((Below.refl _ _).alloc (Nat.le_refl _) _), hB7.trans (((Below.refl _ _).alloc (Nat.le_refl _) _).mono hB7.size), hj7, hB7.size⟩
                            | (obtain ⟨hbn, hbO⟩ := set4_block HN7.out (.slice a7 Q'.L.length k7) (.int .i64 Q'.items) (.int .i64 Q'.bound) (.int .u64 Q'.drops)
                               exact ⟨_, a7, k7, rfl, rfl, hbn, hR7.keep hbO (fun j hj e => by
                                 obtain ⟨c, hc⟩ := hR7.ty j hj
                                 exact blk_ne hc HN7.out (by decide) e), hB7.trans (hbO.below hB7.size (fun j hj e => by subst e; first | omega | exact absurd hj (by omega))), hj7, by first | omega | exact Nat.le_refl _⟩)
                    case rest =>
                      obtain ⟨g18, a7, k7, rfl, rfl, hz, hR7, hB7, hj7, hg18⟩ := hcut
                      have S7 := HS5.out.below hB7
                      have hx7 := (hB7.block gx hgl).trans HG5.out
                      have hy7 := own_only HY5.out (Below.only hB7 (fun _ => False)) (fun _ _ h => h)
                      have hyr : ∀ j, (Value.slice ya A.ds.length yc).ownBlock = some j → r j = 0 := HRY.out
                      have hvr : ∀ j, (Value.slice a7 Q'.L.length k7).ownBlock = some j → r j = 0 := fun j hj => (hj7 j hj).elim (HS5.out.vr j) (fun h => HS5.out.m.q.zero h)
                      have hgr : r g18 = 0 := HS5.out.m.q.zero hg18
                      have x0 : wc.cell? ⟨gx, 0, none⟩ = _ := cell_of_block hx7 0
                      have x1 : wc.cell? ⟨gx, 1, none⟩ = _ := cell_of_block hx7 1
                      have x2 : wc.cell? ⟨gx, 2, none⟩ = _ := cell_of_block hx7 2
                      dsimp at x0 x1 x2
                      have HPC := Lib.hid (HPQ.out _ hB7)
                      have H7 := Lib.hid (And.intro S7 (And.intro hx7 (And.intro hy7 (And.intro hyr (And.intro hvr (And.intro hgr (And.intro hz hR7)))))))
                      clear S7 hx7 hy7 hyr hvr hgr hz hR7 hB7 hj7 hg18 HIT HPU HPQ HS5 HG5 HY5 HRY q0 q1 q2 q3 ne5 ne6 ne7 ne8 hbl hgl
                      obtain ⟨wc, rfl⟩ : ∃ w0 : World, w0 = wc := ⟨_, rfl⟩
                      go_wp2_with fail
                      refine HPC.out.mono ?_
                      rintro e w8 ⟨rfl, r', hQ8, hO8, hr8⟩
                      obtain ⟨S7, hx7, hy7, hyr, hvr, hgr, hz, hR7⟩ := H7.out
                      have hz0 : ∀ j, j < wc.heap.size → r j = 0 → r' j = 0 := fun j hj h0 => by
                        rcases Nat.eq_zero_or_pos (r' j) with e | e
                        · exact e
                        · rcases hr8 j (by omega) with h1 | h1
                          · exact absurd h0 h1
                          · omega
                      have S8 := S7.q hQ8 hO8 hr8
                      have hz8 := hO8.keep hz (fun e => e hgr)
                      have hR8 := hR7.keep hO8 (fun j hj e => e (hvr j hj))
                      have hv8 : ∀ j, (Value.slice a7 Q'.L.length k7).ownBlock = some j → r' j = 0 := fun j hj => hz0 j (hR7.ge j hj).2 (hvr j hj)
                      have hx8 := hO8.keep hx7 (fun e => e HRX.out)
                      have hy8 := own_only hy7 hO8 (fun j hj e => e (hyr j hj))
                      have hyr8 : ∀ j, (Value.slice ya A.ds.length yc).ownBlock = some j → r' j = 0 := fun j hj => hz0 j (own_lt hy7 j hj) (hyr j hj)
                      obtain ⟨hbn, hbO⟩ := set4_block S8.box (.slice a7 Q'.L.length k7) (.int .i64 Q'.items) (.int .i64 Q'.bound) (.int .u64 Q'.drops)
                      have S9 := S8.put (R' := Q') hbn hbO hR8 hv8
                      have hx9 := hbO.keep hx8 (fun e => blk_ne hx8 S8.box (by decide) e)
                      have hy9 := own_only hy8 hbO (fun j hj e => by
                        obtain ⟨c, hc⟩ := row_type hy8 j hj
                        exact blk_ne hc S8.box (by decide) e)
                      have n0 : w8.cell? ⟨g18, 0, none⟩ = _ := cell_of_block hz8 0
                      have n1 : w8.cell? ⟨g18, 1, none⟩ = _ := cell_of_block hz8 1
                      have n2 : w8.cell? ⟨g18, 2, none⟩ = _ := cell_of_block hz8 2
                      have n3 : w8.cell? ⟨g18, 3, none⟩ = _ := cell_of_block hz8 3
                      have q0 : w8.cell? ⟨b, 0, none⟩ = _ := cell_of_block S8.box 0
                      have q1 : w8.cell? ⟨b, 1, none⟩ = _ := cell_of_block S8.box 1
                      have q2 : w8.cell? ⟨b, 2, none⟩ = _ := cell_of_block S8.box 2
                      have q3 : w8.cell? ⟨b, 3, none⟩ = _ := cell_of_block S8.box 3
                      have f0 := free_of_block S8.box 0
                      have f1 := free_of_block S8.box 1
                      have f2 := free_of_block S8.box 2
                      have f3 := free_of_block S8.box 3
                      dsimp at n0 n1 n2 n3 q0 q1 q2 q3
                      have H9 := Lib.hid (And.intro S9 (And.intro hx9 (And.intro hy9 hyr8)))
                      clear S7 hx7 hy7 hyr hvr hgr hz hR7 hz0 S8 hz8 hR8 hv8 hx8 hy8 hyr8 hbn hbO S9 hx9 hy9 hQ8 hO8 hr8 x0 x1 x2 HPC H7
                      go_wp2_with fail
                      generalize (((w8.setCell ⟨b, 0, none⟩ (.slice a7 Q'.L.length k7)).setCell ⟨b, 1, none⟩ (.int .i64 Q'.items)).setCell ⟨b, 2, none⟩ (.int .i64 Q'.bound)).setCell ⟨b, 3, none⟩ (.int .u64 Q'.drops) = w9 at *
                      clear n0 n1 n2 n3 q0 q1 q2 q3 f0 f1 f2 f3
                      go_loopw [20] (KRel w9 (.slice ya A.ds.length yc) A.ds.length) (fun j _ => A.ds.length - (intOf j).toNat)
                      case atStart => exact krel_start H9.out.2.2.1
                      case round =>
                        obtain ⟨j, rfl, hj, hO, hb⟩ := hrel
                        have hyg : ∀ i, (Value.slice ya A.ds.length yc).ownBlock = some i → i ≠ gx := fun i hi => by
                          obtain ⟨c, hc⟩ := row_type H9.out.2.2.1 i hi
                          exact blk_ne hc H9.out.2.1 (by decide)
                        have hxw := hO.keep H9.out.2.1 (fun e => hyg gx e rfl)
                        have x2 : wr.cell? ⟨gx, 2, none⟩ = some (.slice ya A.ds.length yc) := cell_of_block hxw 2
                        by_cases hjn : j < A.ds.length
                        · obtain ⟨yg, ycap, eyv, _⟩ := own_slice H9.out.2.2.1 (by omega)
                          injection eyv with eya _ _
                          subst eya
                          obtain ⟨cy, hcy, hz⟩ := hb yg rfl
                          obtain ⟨z, hzm⟩ := hz j hjn
                          have y0 : wr.cell? ⟨yg, j, none⟩ = some (.int .u8 z) := (cell_of_block hcy j).trans hzm
                          have y1 : wr.frozen? ⟨yg, j, none⟩ = false := free_of_block hcy j
                          have HREL : Hid (KRel w9 (.slice (some ⟨yg, 0, none⟩) A.ds.length yc) A.ds.length (.int .i64 (j : Nat)) wr) := ⟨j, rfl, hj, hO, hb⟩
                          clear hO hb hcy hz hzm hxw hyg H9
                          go_wp2_with fail
                          go_roundw
                          case rel => exact krel_step HREL.out hjn _
                          case measure => simp [intOf]; omega
                        · obtain ⟨S9, hx9, hy9, hyr9⟩ := H9.out
                          have S10 := S9.other hO HYW.out (fun k hk e => hk (hyr9 k e)) (fun e => by
                            obtain ⟨c, hc⟩ := row_type hy9 _ e
                            exact blk_ne hc S9.box (by decide) rfl) (fun i hi e => by
                            obtain ⟨c, hc⟩ := row_type hy9 _ e
                            obtain ⟨c', hc'⟩ := S9.rl.ty i hi
                            exact blk_ne hc hc' (by decide) rfl)
                          have hpb := HPB.out.2.2
                          have HM := Lib.hid (show PMid w p b k _ from ⟨r', Q', _, by omega, S10⟩)
                          clear S9 hx9 hy9 hyr9 S10 hpb hO hb hyg hxw H9
                          go_wp2_with fail
                          go_meet
                          case rel => exact HM.out
          case rest =>
            obtain ⟨r', Q', v', hd', S'⟩ := hcut
            have hbx := S'.box
            have q0 : wc.cell? ⟨b, 0, none⟩ = _ := cell_of_block hbx 0
            have q1 : wc.cell? ⟨b, 1, none⟩ = _ := cell_of_block hbx 1
            have q2 : wc.cell? ⟨b, 2, none⟩ = _ := cell_of_block hbx 2
            have q3 : wc.cell? ⟨b, 3, none⟩ = _ := cell_of_block hbx 3
            dsimp at q0 q1 q2 q3
            have HIS := Lib.hid (is_any S'.m.q (S'.rl.raise (fun _ _ => Nat.zero_le _)) S'.m.q.len (Nat.le_trans S'.m.q.sum S'.m.q.bnd))
            unfold rq at HIS
            have HS' := Lib.hid S'
            clear hbx S' HS5 HG5 HY5 HRY HYW HRX
            go_wp2_with fail
            refine HIS.out.mono ?_
            rintro e w9 ⟨rfl, hB9⟩
            have S9 := HS'.out.below hB9
            have HS9 := Lib.hid S9
            clear S9 hB9 HS' HIS q0 q1 q2 q3
            go_wp2_with fail
            go_roundw
            case rel => exact ⟨k + 1, r', Q', v', by go_num, by omega, hd', HS9.out⟩
            case measure => simp [intOf]; omega
        · go_wp2_with fail
          refine (works_any _).mono ?_
          rintro e w' ⟨rfl, hB⟩
          go_wp2_with fail
          go_ret
          exact ⟨rfl, hS.m.bel.trans (hB.mono hS.m.bel.size)⟩
end Go.Proofs.Ytpnhdfingcfbnaa

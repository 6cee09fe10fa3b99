/- RulePlays: walked. -/
import Derived.Test.YtcbkcalemfminaaRs6
namespace Go.Proofs.Ytcbkcalemfminaa
open Go.RowKit
attribute [local go_sem ↓] load_ad load_pf load_ru load_ky load_bs load_ra load_rp load_rr load_rk build_pf build_ru build_cl build_ra build_rp build_rr build_rk rows_rr rows_ru

theorem new_code {w : World} {deny : Bool} {cls : Int} {l : List Ru} {e : Ending} {w' : World} (h : NewRes w deny cls l e w') :
    Below w.heap.size w w' ∧ ((∃ c : Int, newCode deny cls l = c ∧ (c = 2 ∨ c = 3) ∧ e = .returned (.tuple #[.pointer none, .int .i64 c])) ∨
      (newCode deny cls l = 0 ∧ l.length ≤ 64 ∧ ∃ p, e = .returned (.tuple #[.pointer (some ⟨p, 0, none⟩), .int .i64 0]) ∧ IsC w' w.heap.size w'.heap.size p (others deny cls) l (List.replicate (l.length + 1) 0))) := by
  obtain ⟨hB, h1 | h1 | h1⟩ := h
  · exact ⟨hB, .inl ⟨3, by unfold newCode; rw [if_pos h1.1], .inr rfl, h1.2⟩⟩
  · exact ⟨hB, .inl ⟨2, by unfold newCode; rw [if_neg (by omega), if_pos h1.2.1], .inl rfl, h1.2.2⟩⟩
  · exact ⟨hB, .inr ⟨by unfold newCode; rw [if_neg (by omega), if_neg (by rw [h1.2.1]; decide)], h1.1, h1.2.2⟩⟩

/-- Ahead of each rule that is written over. -/
def OvRel (W w0 : World) (B T p : Nat) (o : Ru) (l : List Ru) (rv ov : Value) (C : Nat) (i : Value) (w : World) : Prop :=
  ∃ k : Nat, i = .int .i64 k ∧ k ≤ l.length ∧ Below W.heap.size W w ∧ IsC w B T p o l (List.replicate (l.length + 1) 0) ∧ OwnRR w W.heap.size rv l ∧ ∃ l' : List Ru, l'.length = l.length ∧ (∀ r ∈ l', r.Ok) ∧ OwnRules w C ov l'

theorem built_ru0 (w : World) : (buildRow 43 #[]).run Try.prog w = .ok (.agg Ru.zero.arr) w := by
  unfold buildRow
  exact run_build w _ _ _ (by kernel_rfl)
theorem Ru.zero_ok : Ru.zero.Ok := ⟨Ad.zero_ok, Ad.zero_ok, by decide⟩
theorem own_made {w : World} {T h n : Nat} {C : Array Value} (hC : C.toList = hCells (List.replicate n 0)) (hs : C.size = n) (hn : n ≤ 1000000) (hh : w.heap[h]? = some (.cells C 62 (0, 0))) (hT : T ≤ h) :
    w.ownsRow T 62 1 (.slice (some ⟨h, 0, none⟩) n n) (List.replicate n 0).length (hCells (List.replicate n 0)) := by
  refine ⟨by simp [hCells], .inr ⟨h, n, C, by simp, hT, hh, by simp, by unfold maxLen; omega, by rw [hs]; omega, ?_⟩⟩
  rw [hC, List.take_of_length_le (by simp [hCells])]
theorem toldRes_pair (r : Ru) : ∃ n f : Int, toldRes r = .returned (.tuple #[.int .i64 n, .int .i64 f]) := by
  unfold toldRes
  split
  · exact ⟨_, _, rfl⟩
  · exact ⟨_, _, rfl⟩
/-- Ahead of each of the two turns; ahead of each count; ahead of each dead one. -/
def TwRel (W : World) (B T p : Nat) (o : Ru) (l : List Ru) (rv hv : Value) (hs : List Nat) (D : Nat) (dv : Value) (i : Value) (w : World) : Prop := ∃ k : Nat, i = .int .i64 k ∧ k ≤ 2 ∧ TwSt W w B T p o l rv hv hs D dv
def GoRel (wt : World) (n D m : Nat) (gv dd : Value) (hs : List Nat) (i : Value) (w : World) : Prop :=
  ∃ j : Nat, i = .int .i64 j ∧ j ≤ n ∧ Below wt.heap.size wt w ∧ (∃ xs, w.ownsRow wt.heap.size 62 1 gv n xs ∧ ∀ q, j ≤ q → xs[q]? = (hCells hs)[q]?) ∧ ∃ ys, w.ownsRow D 3 1 dd m ys
def DdRel (wt : World) (D m : Nat) (dd : Value) (i : Value) (w : World) : Prop :=
  ∃ j : Nat, i = .int .i64 j ∧ j ≤ m ∧ Below wt.heap.size wt w ∧ ∃ ys, w.ownsRow D 3 1 dd m ys
/-- Ahead of each key. -/
def KyRel (W : World) (B T p : Nat) (o : Ru) (l : List Ru) (rv hv : Value) (ks : List Ky) (i : Value) (w : World) : Prop :=
  ∃ k : Nat, i = .int .i64 k ∧ k ≤ ks.length ∧ RP W w B T p o l rv hv (hitsTo l (ks.take k)) (hitsTo l (ks.take k))

set_option maxRecDepth 100000 in
set_option maxHeartbeats 4000000 in
theorem plays_any (deny : Bool) (cls : Int) {lv kv : Value} {l : List Ru} {ks : List Ky} (w : World) (hl : Rules w lv l) (hZ : RZ lv) (hk : Keys w kv ks) (hlen : l.length ≤ 1000) (hks : ks.length ≤ 1000) :
    Calls Try.prog 17 #[.bool deny, .int .i64 cls, lv, kv] w fun e w' => e = .returned (.bool true) ∧ Below w.heap.size w w' := by
  obtain ⟨la, lc, rfl, -⟩ := id hl
  obtain ⟨ka, kc, rfl, -⟩ := id hk
  have HL := Lib.hid hl
  have HK := Lib.hid hk
  clear hl hk
  by_cases hA : ((20 < l.length ∧ l.length ≤ 64) ∨ 20 < ks.length)
  · have hcs : (¬ 20 < l.length ∧ 20 < ks.length) ∨ (20 < l.length ∧ l.length ≤ 64) ∨ (20 < l.length ∧ ¬ l.length ≤ 64 ∧ 20 < ks.length) := by omega
    clear hA
    rcases hcs with ⟨h1, h2⟩ | ⟨h1, h2⟩ | ⟨h1, h2, h3⟩
    all_goals
      go_enter Try.func17, Try.ntmps17
      go_wp2_with fail
      refine (works_any _).mono ?_
      rintro e w2 ⟨rfl, hB⟩
      have HB := Lib.hid hB
      clear hB
      go_wp2_with fail
      go_ret
      exact ⟨rfl, HB.out⟩
  · have hcs : (¬ 20 < l.length ∧ ¬ 20 < ks.length) ∨ (20 < l.length ∧ ¬ l.length ≤ 64 ∧ ¬ 20 < ks.length) := by omega
    clear hA
    go_enter Try.func17, Try.ntmps17
    go_upto_region 1 with (fail)
    go_cut [41] (fun v w' => v = .bool false ∧ w' = w)
    case first =>
      rcases hcs with ⟨h1, h2⟩ | ⟨h1, h2, h3⟩
      all_goals
        go_wp2_with fail
        go_meet
        case rel => exact ⟨by first | rfl | (congr 1; simp; omega), rfl⟩
    case rest =>
      obtain ⟨rfl, rfl⟩ := hcut
      have hk20 : ks.length ≤ 20 := by omega
      clear hcs
      obtain ⟨w0, rfl⟩ : ∃ wo : World, wo = wc := ⟨_, rfl⟩
      go_wp2_with fail
      refine (drules_is HL.out (by omega)).mono ?_
      rintro e w1 ⟨rv, rfl, hr1, hB1⟩
      obtain ⟨ra, rc, rfl⟩ := own_shape hr1
      have hl1 := HL.out.below hB1
      have H1 := Lib.hid (And.intro hr1 hB1)
      have hs1 := hB1.size
      clear hr1 hB1
      go_wp2_with (first | (at_builtin; refine wpList_append_rules rfl (.tmp 45) (.tmp 46) rfl rfl rfl hl1 hZ (by omega) ?_))
      intro ov w2 ho2 hB2
      obtain ⟨oa, oc, rfl⟩ := own_shape ho2
      have H2 := Lib.hid (And.intro ho2 (And.intro (own_kept H1.out.1 hB2) (H1.out.2.trans (hB2.mono hs1))))
      have hok := hl1.ok
      have hR2 := ho2.rules hok
      have hs2 := hB2.size
      clear ho2 hB2 hl1
      go_wp2_with fail
      refine (new_is deny cls hR2 (by omega)).mono ?_
      intro e w3 hN
      obtain ⟨hB3, hN⟩ := new_code hN
      have hr3 : OwnRR w3 w0.heap.size (.slice ra l.length rc) l := own_kept H2.out.2.1 hB3
      have hRR3 := hr3.rules hok
      have hB3W := H2.out.2.2.trans (hB3.mono H2.out.2.2.size)
      have H3 := Lib.hid (And.intro hr3 (And.intro hB3W (own_kept H2.out.1 hB3)))
      have hs3 := hB3.size
      clear hr3 hB3W hB3 hR2
      rcases hN with ⟨c, hc, hc23, rfl⟩ | ⟨hc, h64, p, rfl, hC3⟩
      · go_wp2_with fail
        refine (rnew_is deny cls hRR3 (by omega)).mono ?_
        rintro e w4 ⟨rfl, hB4⟩
        rw [hc]
        have HB4 := Lib.hid (H3.out.2.1.trans (hB4.mono H3.out.2.1.size))
        clear hB4 hRR3 hc
        rcases hc23 with rfl | rfl
        all_goals
          go_wp2_with fail
          refine (works_any _).mono ?_
          rintro e w5 ⟨rfl, hB5⟩
          have HB5 := Lib.hid (HB4.out.trans (hB5.mono HB4.out.size))
          clear hB5
          go_wp2_with fail
          go_ret
          exact ⟨rfl, HB5.out⟩
      · have HC3 := Lib.hid hC3
        clear hC3
        go_wp2_with fail
        refine (rnew_is deny cls hRR3 (by omega)).mono ?_
        rintro e w4 ⟨rfl, hB4⟩
        rw [hc]
        have hB4W := H3.out.2.1.trans (hB4.mono H3.out.2.1.size)
        have hC4 := HC3.out.below hB4
        have hr4 : OwnRR w4 w0.heap.size (.slice ra l.length rc) l := own_kept H3.out.1 hB4
        have ho4 : OwnRules w4 w1.heap.size (.slice oa l.length oc) l := own_kept H3.out.2.2 hB4
        have H4 := Lib.hid (And.intro hB4W (And.intro hC4 (And.intro hr4 ho4)))
        clear hB4 hRR3 hc hB4W hC4 hr4 ho4 H3 HC3
        have HO := Lib.hid (And.intro (own_lt H2.out.1) (own_lt H1.out.1))
        have hB := Lib.hid hs2
        go_wp2_with fail
        go_loopw [14] (OvRel w0 w4 w2.heap.size w3.heap.size p (others deny cls) l (.slice ra l.length rc) (.slice oa l.length oc) w1.heap.size) (fun i _ => l.length - (intOf i).toNat)
        case atStart => exact ⟨0, rfl, Nat.zero_le _, H4.out.1, H4.out.2.1, H4.out.2.2.1, l, rfl, hok, H4.out.2.2.2⟩
        case round =>
          obtain ⟨k, rfl, hk, hB5, hC5, hr5, l', hl', hok', ho5⟩ := hrel
          by_cases hkl : k < l.length
          · obtain ⟨g, cur, e1, hg, hgb, hgc, hgm, hgs, hgx⟩ := own_open (L := l') ho5 (by omega)
            have hki : (k : Int) < (l.length : Int) := by omega
            have hgB : g < w2.heap.size := HO.out.1 g (by rw [e1]; rfl)
            have hrg : ∀ j, (Value.slice ra l.length rc).ownBlock = some j → j < w1.heap.size := HO.out.2
            subst e1
            have hz0 := built_ru0
            have HS := Lib.hid (And.intro hB5 (And.intro hC5 (And.intro hr5 (And.intro hl' (And.intro hok' (And.intro hgs hgx))))))
            have HG := Lib.hid hgb
            rw [hl'] at hgc
            clear hB5 hC5 hr5 ho5 hgx hl' hok' hgs
            go_wp2_with (first | (refine wpList_store_at rfl 43 (.tmp 81) (.tmp 80) rfl g (k * 44) (.agg Ru.zero.arr) rfl rfl 43 cur HG.out Ru.zero.cs rfl (by rw [Ru.zero_ok.len]; kernel_rfl) (by rw [Ru.zero_ok.len, HS.out.2.2.2.2.2.1]; omega) Ru.zero.one ?_))
            intro w6 hS6
            have ho6 := own_stored (i := k) HS.out.2.2.2.2.1 Ru.zero_ok hg (by rw [HS.out.2.2.2.1]; exact hgc) hgm HS.out.2.2.2.2.2.1 HS.out.2.2.2.2.2.2 (by rw [HS.out.2.2.2.1]; exact hkl) (by rw [List.append_assoc]; exact hS6)
            rw [HS.out.2.2.2.1] at ho6
            have HN : Hid (OvRel w0 w4 w2.heap.size w3.heap.size p (others deny cls) l (.slice ra l.length rc) (.slice (some ⟨g, 0, none⟩) l.length oc) w1.heap.size (.int .i64 (k + 1 : Nat)) w6) :=
              ⟨k + 1, rfl, hkl, HS.out.1.trans (hS6.only.below HS.out.1.size (fun j hj e => by omega)), HS.out.2.1.only hS6.only (fun j h1 h2 e => by omega), own_only HS.out.2.2.1 hS6.only (fun j hj e => by have := hrg j hj; omega), l'.set k Ru.zero, by rw [List.length_set]; exact HS.out.2.2.2.1, fun x hx => (List.mem_or_eq_of_mem_set hx).elim (HS.out.2.2.2.2.1 x) (fun e => e ▸ Ru.zero_ok), ho6⟩
            clear ho6 hS6
            go_wp2_with fail
            go_roundw
            case rel => exact HN.out
            case measure => simp [intOf]; omega
          · obtain rfl : k = l.length := by omega
            have H5 := Lib.hid (And.intro hB5 (And.intro hC5 hr5))
            obtain ⟨w5, rfl⟩ : ∃ wo : World, wo = wr := ⟨_, rfl⟩
            have hT5 := hC5.top
            clear hB5 hC5 hr5 ho5 hl' hok'
            obtain ⟨N, hNe⟩ : ∃ N, l.length = N := ⟨_, rfl⟩
            obtain ⟨C, hC1, hC2, hmk⟩ := make_hits (N + 1) (by omega)
            have hcast : ((N + 1 : Nat) : Int) = (N : Int) + 1 := rfl
            have hw1 : IntKind.i64.wrap ((N : Int) + 1) = (N : Int) + 1 := IntWalk.i64_in _ (by omega)
            rw [hcast] at hmk
            have HC12 := Lib.hid (And.intro hC1 hC2)
            have HNE := Lib.hid hNe
            have hn1 : (0 : Int) ≤ (N : Int) + 1 := by omega
            rw [hNe]
            clear hC1 hC2 hcast
            go_wp2_with fail
            have R0 : RP w0 (w5.alloc (.cells C 62)) w2.heap.size w3.heap.size p (others deny cls) l (.slice ra N rc) (.slice (some ⟨w5.heap.size, 0, none⟩) (N + 1) (N + 1)) (List.replicate (l.length + 1) 0) (List.replicate (l.length + 1) 0) :=
              ⟨H5.out.1.alloc H5.out.1.size _, H5.out.2.1.below ((Below.refl _ _).alloc (Nat.le_refl _) _), by rw [← HNE.out]; exact own_kept H5.out.2.2 ((Below.refl _ _).alloc (Nat.le_refl _) _), fun j hj => by have := HO.out.2 j (by rw [HNE.out]; exact hj); omega, by rw [HNE.out]; exact own_made HC12.out.1 HC12.out.2 (by omega) (alloc_block_new w5 _) hT5, by omega⟩
            have hh5 : w0.heap.size ≤ w5.heap.size := H5.out.1.size
            generalize w5.alloc (.cells C 62) = w6 at *
            generalize w5.heap.size = h at *
            generalize hBe : w2.heap.size = B at *
            generalize hTe : w3.heap.size = T at *
            have HR0 := Lib.hid R0
            clear R0 H5 H4 HC12 hmk HO hBe hTe
            go_loopw [16] (KyRel w0 B T p (others deny cls) l (.slice ra N rc) (.slice (some ⟨h, 0, none⟩) (N + 1) (N + 1)) ks) (fun i _ => ks.length - (intOf i).toNat)
            case atStart => exact ⟨0, rfl, Nat.zero_le _, HR0.out⟩
            case round =>
              clear HR0
              obtain ⟨i, rfl, hi, R⟩ := hrel
              by_cases hik : i < ks.length
              · obtain ⟨k, hki⟩ : ∃ k, ks[i]? = some k := ⟨_, List.getElem?_eq_getElem hik⟩
                obtain ⟨_, _, e1, hkw⟩ := HK.out
                injection e1 with e1 _ e2
                subst e1
                subst e2
                obtain ⟨kb, ko, rfl, hkb, hAk⟩ := hkw (by omega)
                obtain ⟨hkok, hkr⟩ := hAk i k hki
                have HKR : Hid (∀ w', Below w0.heap.size w0 w' → (loadRow 28 (.pointer (some ⟨kb, ko + i * 37, none⟩))).run Try.prog w' = .ok (.agg k.arr) w') := fun w' hB => row_ky hkok (range_below hkr hkb hB)
                have HIK : Hid (hitsTo l (ks.take (i + 1)) = bump (hitsTo l (ks.take i)) (place l k)) := by show _ = _; rw [takeK_snoc hki, hitsTo_snoc]
                have hle := hitsTo_le l (ks.take i)
                have HLE : Hid ((hitsTo l (ks.take i)).length = l.length + 1 ∧ ∀ j, (hitsTo l (ks.take i)).getD j 0 ≤ 20) := ⟨hle.1, fun j => by have := hle.2 j; rw [List.length_take] at this; omega⟩
                generalize hitsTo l (ks.take i) = hs at *
                have hii : (i : Int) < (ks.length : Int) := by omega
                have l0 := HKR.out wr R.bel
                have HR := Lib.hid R
                clear hle R hkw hAk hkr hki
                obtain ⟨wi, rfl⟩ : ∃ wo : World, wo = wr := ⟨_, rfl⟩
                go_wp2_with fail
                refine (dkey_is hkok _).mono ?_
                rintro e w7 ⟨rfl, hB7⟩
                have HR7 := Lib.hid (HR.out.below hB7)
                clear hB7 l0 HR
                have hT7 := HR7.out.c.top
                go_wp2_with (first | (refine wpList_store_blk rfl 79 (.tmp 17) (.tmp 96) rfl w7.heap.size k.arr rfl rfl 79 Ky.zero.arr (alloc_block_new w7 (.cells Ky.zero.arr 79)) (by rw [Ky.size hkok]; kernel_rfl) (by rw [Ky.size hkok]; rfl) k.all ?_))
                intro w8 hS8
                have hB8 : Below w7.heap.size w7 w8 := ((Below.refl _ _).alloc (Nat.le_refl _) (.cells Ky.zero.arr 79)).trans (hS8.only.below (by simp) (fun k hk e => by omega))
                have R8 := HR7.out.below hB8
                have hkb8 := hS8.blk
                generalize w7.heap.size = K at *
                have l0 := HKR.out w8 R8.bel
                have H8 := Lib.hid (And.intro R8 hkb8)
                clear hS8 hB8 hkb8 R8 HR7
                go_wp2_with fail
                refine (class_is H8.out.1.c hkok (by omega) H8.out.1.bl).mono ?_
                obtain ⟨tn, tf, htr⟩ := toldRes_pair (told l (others deny cls) k)
                rw [htr]
                rintro e w9 ⟨rfl, hC9, hO9⟩
                have R9 := H8.out.1.told hC9 hO9
                have hkb9 := hO9.keep H8.out.2 (by omega)
                have hRl9 := R9.rr.rules hok
                have l9 := row_rk hkok (range_block hkb9)
                have H9 := Lib.hid (And.intro R9 hkb9)
                clear hC9 hO9 R9 hkb9 l0 H8
                go_wp2_with fail
                refine (rclass_is deny cls hRl9 hkok (by omega)).mono ?_
                rw [htr]
                rintro e w10 ⟨rfl, hB10⟩
                have R10 := H9.out.1.below hB10
                have hkb10 := (hB10.block _ (lt_of_obj H9.out.2)).trans H9.out.2
                have hRl10 := R10.rr.rules hok
                have l10 := row_rk hkok (range_block hkb10)
                have H10 := Lib.hid (And.intro R10 hkb10)
                clear hB10 R10 hkb10 l9 H9 htr hRl9
                go_wp2_with fail
                refine (rwhich_is hRl10 hkok (by omega)).mono ?_
                rintro e w11 ⟨n, rfl, hf, hB11⟩
                have R11 := H10.out.1.below hB11
                have l11 := HKR.out w11 R11.bel
                have H11 := Lib.hid R11
                clear hB11 R11 l10 H10 hRl10
                go_wp2_with fail
                refine (which_is H11.out.c hkok (by omega)).mono ?_
                rintro e w12 ⟨n2, rfl, hf2, hB12⟩
                obtain rfl := hf2.uniq hf
                have H12 := Lib.hid (H11.out.below hB12)
                have hft := first_told (o := others deny cls) hf
                clear hB12 l11 H11 hf hf2
                obtain ⟨at_, hat, hpl⟩ : ∃ at_ : Nat, place l k = at_ ∧ ((n2 = (at_ : Int) ∧ at_ < N) ∨ (n2 = -1 ∧ at_ = N)) := by
                  rcases hft with ⟨j, h1, h2, _, h3⟩ | ⟨h1, _, h3⟩
                  · exact ⟨j, h3, .inl ⟨h1, by rw [← HNE.out]; exact h2⟩⟩
                  · exact ⟨N, by rw [h3]; exact HNE.out, .inr ⟨h1, rfl⟩⟩
                have hlen2 : hs.length = N + 1 := by rw [HLE.out.1, HNE.out]
                have hatN : at_ ≤ N := by omega
                obtain ⟨y0, y1, hTh, hset⟩ := H12.out.cell (i := at_) (by omega)
                have hbs := bump_set (HLE.out.2 at_) (by decide)
                have hx20 := HLE.out.2 at_
                have hwx : IntKind.u64.wrap ((hs.getD at_ 0 : Nat) + 1 : Int) = ((hs.getD at_ 0 + 1 : Nat) : Int) := by rw [IntWalk.u64_in _ (by omega)]; rfl
                have HM : Hid (KyRel w0 B T p (others deny cls) l (.slice ra N rc) (.slice (some ⟨h, 0, none⟩) (N + 1) (N + 1)) ks (.int .i64 (i + 1 : Nat)) (w12.setCell ⟨h, at_, none⟩ (.int .u64 ((hs.getD at_ 0 + 1 : Nat) : Int)))) := by
                  refine ⟨i + 1, rfl, hik, ?_⟩
                  have hz := hset (hs.getD at_ 0 + 1)
                  rw [HIK.out, hat, hbs]
                  rw [hat, hbs] at hz
                  exact hz
                generalize hs.getD at_ 0 = x at *
                have hati : (at_ : Int) < (N : Int) + 1 := by omega
                clear hft hset hat hbs H12 hlen2
                rcases hpl with ⟨rfl, hp1⟩ | ⟨rfl, rfl⟩
                · go_wp2_with fail
                  go_roundw
                  case rel => exact HM.out
                  case measure => simp [intOf]; omega
                · go_wp2_with fail
                  go_roundw
                  case rel => exact HM.out
                  case measure => simp [intOf]; omega
              · obtain rfl : i = ks.length := by omega
                obtain ⟨w7, rfl⟩ : ∃ wo : World, wo = wr := ⟨_, rfl⟩
                rw [List.take_length] at R
                have HLE := Lib.hid (hitsTo_le l ks).1
                generalize hitsTo l ks = hs at *
                have hRl7 := R.rr.rules hok
                have HR := Lib.hid R
                clear R
                go_wp2_with fail
                refine (rdead_is hRl7 (by omega)).mono ?_
                rintro e w8 ⟨dv, rfl, hd8, hB8⟩
                have H8 := Lib.hid (And.intro (HR.out.below hB8) hd8)
                clear hB8 hd8 HR hRl7
                obtain ⟨da, dc, rfl⟩ := own_shape H8.out.2
                generalize w7.heap.size = D at *
                have hdl : (deads l).length ≤ 1000 := Nat.le_trans (deadsTo_len l l.length) hlen
                generalize hDN : (deads l).length = DN at *
                have hDNi : ¬ (DN : Int) < 0 := by omega
                have hsN : hs.length = N + 1 := by rw [HLE.out, HNE.out]
                have HDN := Lib.hid hDN
                have HT0 : Hid (TwSt w0 w8 B T p (others deny cls) l (.slice ra N rc) (.slice (some ⟨h, 0, none⟩) (N + 1) (N + 1)) hs D (.slice da DN dc)) := ⟨H8.out.1, by rw [HDN.out]; exact H8.out.2⟩
                have HHS := Lib.hid hsN
                clear H8 hDN hsN
                go_wp2_with fail
                go_loopw [24] (TwRel w0 B T p (others deny cls) l (.slice ra N rc) (.slice (some ⟨h, 0, none⟩) (N + 1) (N + 1)) hs D (.slice da DN dc)) (fun i _ => 2 - (intOf i).toNat)
                case atStart => exact ⟨0, rfl, Nat.zero_le _, HT0.out⟩
                case round =>
                  clear HT0
                  obtain ⟨t, rfl, ht, S⟩ := hrel
                  by_cases ht2 : t < 2
                  · have HS := Lib.hid S
                    obtain ⟨wt, rfl⟩ : ∃ wo : World, wo = wr := ⟨_, rfl⟩
                    clear S
                    go_wp2_with fail
                    refine (hits_is HS.out.r.c hlen).mono ?_
                    rintro e w9 ⟨gv, rfl, hg9, hB9⟩
                    rw [HHS.out] at hg9
                    obtain ⟨ga, gc, rfl⟩ := own_shape hg9
                    have S9 := HS.out.below hB9
                    have H9 := Lib.hid (And.intro hg9 (And.intro S9 hB9))
                    clear hg9 S9 hB9
                    go_wp2_with fail
                    refine (dead_is H9.out.2.1.r.c (by omega)).mono ?_
                    rintro e w10 ⟨dd, rfl, hd10, hB10⟩
                    have hg10 := own_kept H9.out.1 hB10
                    have S10 := H9.out.2.1.below hB10
                    have hsi := same_ints hd10 S10.d (by rw [HDN.out]; omega)
                    rw [HDN.out] at hd10
                    obtain ⟨dda, ddc, rfl⟩ := own_shape hd10
                    have H10 := Lib.hid (And.intro hd10 (And.intro hg10 (And.intro S10 (H9.out.2.2.trans (hB10.mono H9.out.2.2.size)))))
                    have HSI := Lib.hid hsi
                    clear hd10 hg10 S10 hB10 hsi
                    go_wp2_with fail
                    refine HSI.out.mono ?_
                    rintro e w11 ⟨rfl, hB11⟩
                    have hg11 := own_kept H10.out.2.1 hB11
                    have hd11 := own_kept H10.out.1 hB11
                    have hB11t := H10.out.2.2.2.trans (hB11.mono H10.out.2.2.2.size)
                    have hD9 : wt.heap.size ≤ w9.heap.size := H9.out.2.2.size
                    have hg9 := own_lt H9.out.1
                    generalize w9.heap.size = D9 at *
                    have H11 := Lib.hid (And.intro hB11t (And.intro hg11 hd11))
                    have HG9 := Lib.hid hg9
                    clear hB11 hg11 hd11 hB11t H10 H9 HSI hg9
                    go_wp2_with fail
                    go_loopw [27] (GoRel wt (N + 1) D9 DN (.slice ga (N + 1) gc) (.slice dda DN ddc) hs) (fun i _ => N + 1 - (intOf i).toNat)
                    case atStart => exact ⟨0, rfl, Nat.zero_le _, H11.out.1, ⟨_, H11.out.2.1, fun q _ => rfl⟩, _, H11.out.2.2⟩
                    case round =>
                      clear H11
                      obtain ⟨j, rfl, hj, hB, ⟨xs, hgo, hxs⟩, ys, hdo⟩ := hrel
                      by_cases hjN : j < N + 1
                      · obtain ⟨g, cap, e1, hg1, hg2, hcg, ⟨u, hu⟩, hfg, hset⟩ := own1_set hgo hjN
                        injection e1 with e1 _ e3
                        subst e1
                        subst e3
                        obtain ⟨y1, _, _, _⟩ := (HS.out.below hB).r.cell (i := j) (by rw [HHS.out]; exact hjN)
                        have hcx : xs[j]? = some (.int .u64 (hs.getD j 0 : Nat)) := by
                          rw [hxs j (Nat.le_refl _)]
                          simp [hCells, List.getD_eq_getElem?_getD, List.getElem?_eq_getElem (show j < hs.length by rw [HHS.out]; exact hjN)]
                        rw [hcx] at hcg
                        have hgD : g < D9 := HG9.out g rfl
                        have HN : Hid (GoRel wt (N + 1) D9 DN (.slice (some ⟨g, 0, none⟩) (N + 1) gc) (.slice dda DN ddc) hs (.int .i64 (j + 1 : Nat)) (wr.drew.setCell ⟨g, j, none⟩ (.int .u64 77))) :=
                          ⟨j + 1, rfl, hjN, hB.drew.setCell (p := ⟨g, j, none⟩) hg1 _, ⟨_, hset _, fun q hq => by rw [List.getElem?_set_ne (by omega)]; exact hxs q (by omega)⟩, ys, own_only (w' := wr.drew.setCell ⟨g, j, none⟩ (.int .u64 77)) hdo (Only.setCell (S := (· = g)) (p := ⟨g, j, none⟩) (Only.refl _ wr).drew (fun _ => rfl) _) (fun q hq e => by have := own_ge hdo q hq; omega)⟩
                        have hji : (j : Int) < (N : Int) + 1 := by omega
                        generalize hs.getD j 0 = x at *
                        clear hgo hxs hdo hset hB hu hcx
                        go_wp2_with fail
                        go_region
                        all_goals
                          go_wp2_with fail
                          go_roundw
                          case rel => exact HN.out
                          case measure => simp [intOf]; omega
                      · have H12 := Lib.hid (And.intro hB hdo)
                        clear hgo hxs hdo hB
                        obtain ⟨wu, rfl⟩ : ∃ wo : World, wo = wr := ⟨_, rfl⟩
                        go_wp2_with fail
                        go_loopw [28] (DdRel wt D9 DN (.slice dda DN ddc)) (fun i _ => DN - (intOf i).toNat)
                        case atStart => exact ⟨0, rfl, Nat.zero_le _, H12.out.1, _, H12.out.2⟩
                        case round =>
                          clear H12
                          obtain ⟨j, rfl, hj, hB, ys, hdo⟩ := hrel
                          by_cases hjN : j < DN
                          · obtain ⟨g, cap, e1, hg1, hg2, hcg, ⟨u, hu⟩, hfg, hset⟩ := own1_set hdo hjN
                            injection e1 with e1 _ e3
                            subst e1
                            subst e3
                            have HN : Hid (DdRel wt D9 DN (.slice (some ⟨g, 0, none⟩) DN ddc) (.int .i64 (j + 1 : Nat)) (wr.setCell ⟨g, j, none⟩ (.int .i64 77))) := ⟨j + 1, rfl, hjN, hB.setCell (p := ⟨g, j, none⟩) (by show wt.heap.size ≤ g; omega) _, _, hset _⟩
                            have hji : (j : Int) < (DN : Int) := by omega
                            rw [hu] at hcg
                            clear hdo hset hB hu
                            go_wp2_with fail
                            go_roundw
                            case rel => exact HN.out
                            case measure => simp [intOf]; omega
                          · have HN : Hid (TwRel w0 B T p (others deny cls) l (.slice ra N rc) (.slice (some ⟨h, 0, none⟩) (N + 1) (N + 1)) hs D (.slice da DN dc) (.int .i64 (t + 1 : Nat)) wr) := ⟨t + 1, rfl, by omega, HS.out.below hB⟩
                            clear hdo hB
                            go_wp2_with fail
                            go_roundw
                            case rel => exact HN.out
                            case measure => simp [intOf]; omega
                  · have HF := Lib.hid S.r.bel
                    clear S
                    go_wp2_with fail
                    refine (works_any _).mono ?_
                    rintro e w9 ⟨rfl, hB9⟩
                    have HF9 := Lib.hid (HF.out.trans (hB9.mono HF.out.size))
                    clear hB9
                    go_wp2_with fail
                    go_ret
                    exact ⟨rfl, HF9.out⟩
end Go.Proofs.Ytcbkcalemfminaa

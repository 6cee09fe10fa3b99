/- BucketBounds, walked. -/
import Derived.Test.YtkghnapodbodkaaBw4
import Derived.Test.YtkghnapodbodkaaBlaw
import Derived.Test.YtkghnapodbodkaaRow
import Derived.OpenShut
namespace Go.Proofs.Ytkghnapodbodkaa
open Go.RowKit

/-- A slice of integers that came in: nil, or a row of cap numbers. -/
def IsInts (k : IntKind) (w : World) (a : Option Addr) (len cap : Nat) (zs : List Int) : Prop :=
  (a = none ∧ len = 0 ∧ cap = 0 ∧ zs = []) ∨
  ∃ x, a = some x ∧ len ≤ cap ∧ cap ≤ maxLen ∧ zs.length = cap ∧ (∀ i, i < zs.length → w.cell? (x.add i) = some (.int k (zs.getD i 0))) ∧ ∀ n ∈ zs, (Lit.int k n).wf = true

set_option maxRecDepth 100000 in
theorem bounds_long (r b : Int) (a2 : Option Addr) (len2 cap2 : Nat) (a3 : Option Addr) (len3 cap3 : Nat) (w : World) (h : 60 < len2 ∨ 60 < len3) :
    Calls Try.prog 3 #[.int .u16 r, .int .u16 b, .slice a2 len2 cap2, .slice a3 len3 cap3] w fun e w' => e = .returned (.bool true) ∧ Below w.heap.size w w' := by
  have hd : (decide (60 < len2) || decide (60 < len3)) = true := by simp [h]
  by_cases h2 : 60 < len2
  all_goals
    go_enter Try.func3, Try.ntmps3
    go_wp2_with (go_at_call 8; refine (works_any _).mono ?_; rintro e w' ⟨rfl, hO⟩)
  all_goals
    go_ret
    exact ⟨rfl, hO.below (Nat.le_refl _) (fun _ _ h => h)⟩

set_option maxRecDepth 100000 in
theorem bounds_none (r b : Nat) (hr : r ≤ 65535) (hb : b ≤ 65535) (a2 : Option Addr) (len2 cap2 : Nat) (a3 : Option Addr) (len3 cap3 : Nat) (w : World) (h2 : len2 ≤ 60) (h3 : len3 ≤ 60) (h : len2 = 0 ∨ len3 = 0) :
    Calls Try.prog 3 #[.int .u16 r, .int .u16 b, .slice a2 len2 cap2, .slice a3 len3 cap3] w fun e w' => e = .returned (.bool true) ∧ Below w.heap.size w w' := by
  have h0 : len2 ≤ 0 ∨ len3 ≤ 0 := by omega
  clear h
  rcases h0 with h0 | h0
  all_goals
    go_enter Try.func3, Try.ntmps3
    go_wp2_with fail
    refine (new_is r b 0 _).mono ?_
    rintro e w1 ⟨p, rfl, hp, hB1, hO1⟩
    go_wp2_with fail
    refine wp_loop_rounds 1 ?_
    rw [rounds_succ]
    go_wp2_with fail
    all_goals
      refine (works_any _).mono ?_
      rintro e w2 ⟨rfl, hO2⟩
      go_wp2
      go_ret
      exact ⟨rfl, (hO1.trans hO2).below (Nat.le_refl _) (fun _ _ h => h)⟩
/-- The numbers as cells. -/
def u64s (l : List Nat) : List Value := l.map fun (n : Nat) => Value.int .u64 (n : Int)
theorem u64s_get {l : List Nat} {k : Nat} (h : k < l.length) : (u64s l)[k]? = some (.int .u64 (l.getD k 0 : Nat)) := by
  unfold u64s
  simp [List.getD, h]
theorem u64s_snoc (l : List Nat) (n : Nat) : u64s l ++ [.int .u64 (n : Int)] = u64s (l ++ [n]) := by simp [u64s]

theorem info_u64 : (Try.prog.info? 28).map (fun i => (i.zero, i.size, i.bytes)) = some (some (.int .u64 0), 1, 8) := by kernel_rfl

/-- What holds at the head of a round. -/
def BRel (r b p : Nat) (W : World) (l2 l3 : Nat) (at_ tk tick i : Value) (wr : World) : Prop :=
  ∃ (ats tks : List Nat) (T tok : Nat), i = .int .i64 ats.length ∧ ats.length ≤ l2 ∧ ats.length ≤ l3 ∧ tick = .int .u64 T ∧ T ≤ ats.length * 1099511627776 ∧ BFair r b ats tks T tok ∧
    IsB wr p ⟨r, b, T, tok⟩ ∧ wr.ownsRow 0 28 1 at_ ats.length (u64s ats) ∧ wr.ownsRow 0 28 1 tk ats.length (u64s tks) ∧
    (∀ k, at_.ownBlock = some k → W.heap.size ≤ k ∧ k ≠ p ∧ tk.ownBlock ≠ some k) ∧ (∀ k, tk.ownBlock = some k → W.heap.size ≤ k ∧ k ≠ p) ∧ Below W.heap.size W wr

set_option maxRecDepth 100000 in
set_option maxHeartbeats 1000000 in
theorem bounds_some (r b : Nat) (hr : r ≤ 65535) (hb : b ≤ 65535) (c2 o2 len2 cap2 c3 o3 len3 cap3 : Nat) (z2 z3 : List Nat) (w : World) (h2 : len2 ≤ 60) (h3 : len3 ≤ 60)
    (hc2 : ∀ i, i < len2 → w.cell? ⟨c2, o2 + i, none⟩ = some (.int .u64 (z2.getD i 0 : Nat))) (hc3 : ∀ i, i < len3 → w.cell? ⟨c3, o3 + i, none⟩ = some (.int .u16 (z3.getD i 0 : Nat)))
    (b3 : ∀ i, z3.getD i 0 ≤ 65535) (hl2 : c2 < w.heap.size) (hl3 : c3 < w.heap.size) :
    Calls Try.prog 3 #[.int .u16 r, .int .u16 b, .slice (some ⟨c2, o2, none⟩) len2 cap2, .slice (some ⟨c3, o3, none⟩) len3 cap3] w fun e w' => e = .returned (.bool true) ∧ Below w.heap.size w w' := by
  obtain ⟨i0, hi, hz0, hz1, hz2⟩ := info_parts info_u64
  have HC2 := Lib.hid hc2
  have HC3 := Lib.hid hc3
  have B3 := Lib.hid b3
  clear hc2 hc3 b3
  go_enter Try.func3, Try.ntmps3
  go_wp2_with fail
  refine (new_is r b 0 _).mono ?_
  rintro e w1 ⟨p, rfl, hp, hB1, hO1⟩
  have Hb1 : Below w.heap.size w w1 := hO1.below (Nat.le_refl _) (fun _ _ h => h)
  clear hO1
  go_wp2_with fail
  go_loopw [10, 11, 12, 13] (BRel r b p w len2 len3) (fun _ _ _ i _ => 60 - (intOf i).toNat)
  case atStart =>
    exact ⟨[], [], 0, b, rfl, Nat.zero_le _, Nat.zero_le _, rfl, Nat.zero_le _, BFair.nil r b, hB1, World.ownsRow_nil _ _ _ _, World.ownsRow_nil _ _ _ _, by simp [Value.ownBlock], by simp [Value.ownBlock], Hb1⟩
  case round =>
    obtain ⟨ats, tks, T, tok, rfl, hl2', hl3', rfl, hT, hF, hB, ho1, ho2, hk1, hk2, hBel⟩ := hrel
    have HO1 := Lib.hid ho1
    have HO2 := Lib.hid ho2
    have HK1 := Lib.hid hk1
    have HK2 := Lib.hid hk2
    clear ho1 ho2 hk1 hk2 hB1
    have hTb : T ≤ 65970697666560 := by omega
    by_cases hlt : ats.length < len2 ∧ ats.length < len3
    · obtain ⟨hlt2, hlt3⟩ := hlt
      have hx2 : wr.cell? ⟨c2, o2 + ats.length, none⟩ = some (.int .u64 (z2.getD ats.length 0 : Nat)) := (hBel.cell (p := ⟨c2, o2 + ats.length, none⟩) hl2).trans (HC2.out _ hlt2)
      have hx3 : wr.cell? ⟨c3, o3 + ats.length, none⟩ = some (.int .u16 (z3.getD ats.length 0 : Nat)) := (hBel.cell (p := ⟨c3, o3 + ats.length, none⟩) hl3).trans (HC3.out _ hlt3)
      have hb3 := B3.out ats.length
      generalize z2.getD ats.length 0 = s at *
      generalize z3.getD ats.length 0 = n at *
      obtain ⟨T', hT'⟩ : ∃ T' : Nat, T' = T + s % 1099511627776 := ⟨_, rfl⟩
      have hTle : T ≤ T' := by omega
      have hTb' : T' ≤ (ats.length + 1) * 1099511627776 := by omega
      have hTi : (T : Int) + (s : Int) % 1099511627776 = (T' : Int) := by omega
      have HTi := Lib.hid hTi
      clear hTi hT'
      have hfill := fill_at (r := r) (b := b) hF.tle hTle
      have HF := Lib.hid hF
      clear hF
      obtain ⟨n', tk', hc, hstep⟩ : ∃ n' tk', ((n = n' ∧ (Bk.mk r b T tok).can T' n = true ∨ 0 = n' ∧ (Bk.mk r b T tok).can T' n = false) ∧ (Bk.mk r b T tok).take T' n = ⟨r, b, T', tk'⟩) ∧ BFair r b (ats ++ [T']) (tks ++ [n']) T' tk' := by
        by_cases hcan : n ≤ ((Bk.mk r b T tok).fill T').tok
        · refine ⟨n, min b (tok + r * (T' - T)) - n, ⟨.inl ⟨rfl, Bk.can_yes hcan⟩, ?_⟩, ?_⟩
          · rw [Bk.take_yes hcan, hfill]; rfl
          · rw [hfill] at hcan
            exact HF.out.step hTle hcan
        · refine ⟨0, min b (tok + r * (T' - T)), ⟨.inr ⟨rfl, Bk.can_no hcan⟩, ?_⟩, ?_⟩
          · rw [Bk.take_no hcan, hfill]
          · exact HF.out.step hTle (Nat.zero_le _)
      obtain ⟨hc, htake⟩ := hc
      have hok1 : (Bk.mk r b T tok).Ok := ⟨by show r < _; omega, by show b < _; omega, by show T < _; omega, HF.out.tle⟩
      have HT := Lib.hid htake
      have HS := Lib.hid hstep
      have htk := hstep.tle
      clear htake hstep hfill
      have hok2 : (Bk.mk r b T' tk').Ok := ⟨by show r < _; omega, by show b < _; omega, by show T' < _; omega, htk⟩
      have H63 : Hid ((ats.length + 1) ≤ maxLen) := by show ats.length + 1 ≤ 9223372036854775807; omega
      rcases hc with ⟨rfl, hc⟩ | ⟨rfl, hc⟩
      all_goals
        have HC := Lib.hid hc
        clear hc
        go_wp2_with fail
        rw [HTi.out]
        refine (take_is p T' n _ hB hok1 (by omega) HC.out HT.out).mono ?_
        rintro e w2 ⟨rfl, hB2, hO2⟩
        have hS : ∀ k, k < w.heap.size → ¬ k = p := fun k hk e => by omega
        have hBel2 : Below w.heap.size w w2 := hBel.trans (hO2.below hBel.size hS)
        have hx3' : w2.cell? ⟨c3, o3 + ats.length, none⟩ = some (.int .u16 (n : Nat)) := (hBel2.cell (p := ⟨c3, o3 + ats.length, none⟩) hl3).trans ((hBel.cell (p := ⟨c3, o3 + ats.length, none⟩) hl3).symm.trans hx3)
        go_wp2_with fail
        refine (level_is p T' _ hB2 hok2 (by omega) (Bk.fill_le (Nat.le_refl _)) rfl).mono ?_
        rintro e w3 ⟨rfl, hB3, hO3⟩
        have hBel3 : Below w.heap.size w w3 := hBel2.trans (hO3.below hBel2.size hS)
        have ho13 := own_only HO1.out (hO2.trans hO3) (fun k hk => (HK1.out k hk).2.1)
        have ho23 := own_only HO2.out (hO2.trans hO3) (fun k hk => (HK2.out k hk).2)
        have HO13 := Lib.hid ho13
        have HO23 := Lib.hid ho23
        clear ho13 ho23 hO2 hO3 hB2 hx3'
        have HBY : Hid ((ats.length + 1) * 8 ≤ 140737488355328) := by show (ats.length + 1) * 8 ≤ 140737488355328; omega
        go_wp2_with (at_builtin; refine wpList_append_row _ rfl (.tmp 71) (.tmp 73) 23 rfl 28 i0 (.int .u64 0) 1 8 Try.underlying23 hi hz0 hz1 hz2 rfl (by decide) _ _ _ rfl (HO13.out.alloc _) ⟨w3.heap.size, 0, none⟩ 1 1 [.int .u64 T'] rfl rfl (one_new _ _ _) (by intro u hu; simp at hu; subst hu; rfl) H63.out HBY.out ?_)
        intro v1 w4 hown4 hg4 hb4
        have HO14 := Lib.hid hown4
        have HG4 := Lib.hid hg4
        have HB4 := Lib.hid hb4
        clear hown4 hg4 hb4
        have hq1 : ∀ k, u10.ownBlock = some k → k < w3.heap.size := fun k hk => (HO13.out.lt k hk).2
        have hq2 : ∀ k, u11.ownBlock = some k → k < w3.heap.size := fun k hk => (HO23.out.lt k hk).2
        have hB4 : IsB w4 p ⟨r, b, T', tk'⟩ := grown_keep HG4.out ((alloc_block_old _ hB3.lt).trans hB3) (fun e => (HK1.out p e).2.1 rfl)
        have ho24 := own_grown (HO23.out.alloc (.cells #[.int .u64 T'] 28)) HG4.out (fun k hk e => (HK1.out k e).2.2 hk)
        have hBel4 : Below w.heap.size w w4 := (hBel3.alloc hBel3.size _).grown HG4.out (by have := hBel3.size; simp; omega) (fun k hk => (HK1.out k hk).1)
        have HO24 := Lib.hid ho24
        clear ho24
        go_wp2_with (at_builtin; refine wpList_append_row _ rfl (.tmp 75) (.tmp 77) 23 rfl 28 i0 (.int .u64 0) 1 8 Try.underlying23 hi hz0 hz1 hz2 rfl (by decide) _ _ _ rfl (HO24.out.alloc _) ⟨w4.heap.size, 0, none⟩ 1 1 [.int .u64 _] rfl rfl (one_new _ _ _) (by intro u hu; simp at hu; subst hu; rfl) H63.out HBY.out ?_)
        intro v2 w5 hown5 hg5 hb5
        have HO25 := Lib.hid hown5
        have HG5 := Lib.hid hg5
        have HB5 := Lib.hid hb5
        clear hown5 hg5 hb5
        have hB5 : IsB w5 p ⟨r, b, T', tk'⟩ := grown_keep HG5.out ((alloc_block_old _ hB4.lt).trans hB4) (fun e => (HK2.out p e).2 rfl)
        have hn1 : ∀ k, v1.ownBlock = some k → w.heap.size ≤ k ∧ k ≠ p ∧ u11.ownBlock ≠ some k ∧ k < w4.heap.size := by
          intro k hk
          refine ⟨?_, ?_, ?_, (HO14.out.lt k hk).2⟩
          all_goals
            rcases HB4.out with e | e
            · first
                | exact (HK1.out k (e ▸ hk)).1
                | exact (HK1.out k (e ▸ hk)).2.1
                | exact (HK1.out k (e ▸ hk)).2.2
            · rw [hk] at e
              simp only [Option.some.injEq] at e
              have := hBel3.size
              have := hB3.lt
              first
                | omega
                | (intro e'; have := hq2 k e'; omega)
        have ho15 := own_grown (HO14.out.alloc (.cells #[.int .u64 _] 28)) HG5.out (fun k hk e => (hn1 k hk).2.2.1 e)
        have hBel5 : Below w.heap.size w w5 := (hBel4.alloc hBel4.size _).grown HG5.out (by have := hBel4.size; simp; omega) (fun k hk => (HK2.out k hk).1)
        have hn2 : ∀ k, v2.ownBlock = some k → w.heap.size ≤ k ∧ k ≠ p ∧ v1.ownBlock ≠ some k := by
          intro k hk
          refine ⟨?_, ?_, ?_⟩
          all_goals
            rcases HB5.out with e | e
            · first
                | exact (HK2.out k (e ▸ hk)).1
                | exact (HK2.out k (e ▸ hk)).2
                | exact fun e' => (hn1 k e').2.2.1 (e ▸ hk)
            · rw [hk] at e
              simp only [Option.some.injEq] at e
              have := hBel4.size
              have := hB4.lt
              first
                | omega
                | (intro e'; have := hn1 k e'; omega)
        rw [u64s_snoc] at ho15
        obtain ⟨tks', ho25, hF5⟩ : ∃ tks', w5.ownsRow 0 28 1 v2 (ats.length + 1) (u64s tks') ∧ BFair r b (ats ++ [T']) tks' T' tk' := ⟨_, by rw [← u64s_snoc]; exact HO25.out, HS.out⟩
        have hrl5 : BRel r b p w len2 len3 v1 v2 (.int .u64 T') (.int .i64 (ats.length + 1 : Nat)) w5 :=
          ⟨ats ++ [T'], tks', T', tk', by simp, by simp; omega, by simp; omega, rfl, by simpa using hTb', hF5, hB5, by simpa using ho15, by simpa using ho25,
            fun k hk => ⟨(hn1 k hk).1, (hn1 k hk).2.1, fun e => (hn2 k e).2.2 hk⟩, fun k hk => ⟨(hn2 k hk).1, (hn2 k hk).2.1⟩, hBel5⟩
        have HR5 := Lib.hid hrl5
        obtain ⟨g1, cap1, hv1, _, _⟩ := own_slice ho15 (Nat.succ_pos _)
        obtain ⟨g2, cap2', hv2, _, _⟩ := own_slice ho25 (Nat.succ_pos _)
        rw [hv1] at ho15
        rw [hv2] at ho25
        have hlen5 := hF5.len
        simp only [List.length_append, List.length_cons, List.length_nil, Nat.zero_add] at hlen5
        have HA : Hid (∀ k, k < ats.length + 1 → w5.cell? ⟨g1, k, none⟩ = some (.int .u64 ((ats ++ [T']).getD k 0 : Nat))) :=
          fun k hk => (ho15.cellAt k (by omega)).trans (u64s_get (by simpa using hk))
        have HB : Hid (∀ k, k < ats.length + 1 → w5.cell? ⟨g2, k, none⟩ = some (.int .u64 (tks'.getD k 0 : Nat))) :=
          fun k hk => (ho25.cellAt k (by omega)).trans (u64s_get (by omega))
        have HF5 := Lib.hid hF5
        have HL5 := Lib.hid hlen5
        have HV1 := Lib.hid hv1
        have HV2 := Lib.hid hv2
        rw [hv1, hv2]
        clear hv1 hv2 ho15 ho25 hF5 hlen5 hrl5 hn1 hn2 hq1 hq2 hBel hBel3 hBel4 hBel2 hBel5 hB5 hB4 hB3 hB HO24 HO14 HO13 HO23 HG4 HG5 HB4 HB5 HO25 HO1 HO2 HK1 HK2
        go_wp2_with fail
        go_loop [15, 16] (fun s k => ∃ m : Nat, m ≤ ats.length + 1 ∧ k = .int .i64 ((m : Int) - 1) ∧ s = .int .u64 ((tks'.drop m).sum : Nat)) (fun _ k => (intOf k + 1).toNat)
        case atStart =>
          refine ⟨ats.length + 1, Nat.le_refl _, ?_, ?_⟩
          · rw [show ((ats.length + 1 : Nat) : Int) - 1 = (ats.length : Int) by omega]
          · have h := HL5.out
            rw [List.drop_of_length_le (by omega)]
            rfl
        case round =>
          obtain ⟨m, hm, rfl, rfl⟩ := hrel
          by_cases hm0 : m ≤ 0
          · go_wp2_with fail
            refine ⟨?_, by simp [intOf]; omega⟩
            have h := HR5.out
            rw [HV1.out, HV2.out] at h
            exact h
          · obtain ⟨j, rfl⟩ : ∃ j, m = j + 1 := ⟨m - 1, by omega⟩
            have hj : j < ats.length + 1 := by omega
            have hs := HF5.out.sum j (by simpa using hj)
            have ha := HF5.out.at_le j (by simpa using hj)
            have h1 := HA.out j hj
            have h2 := HB.out j hj
            have he : (tks'.drop j).sum = tks'.getD j 0 + (tks'.drop (j + 1)).sum := sum_drop (by have := HL5.out; omega)
            rw [he] at hs
            have HE := Lib.hid he
            clear he
            generalize (tks'.drop (j + 1)).sum = S1 at *
            generalize tks'.getD j 0 = x at *
            generalize (ats ++ [T']).getD j 0 = a at *
            have hpr : r * (T' - a) ≤ 65535 * 65970697666560 := Nat.mul_le_mul hr (by omega)
            have hpe : ((r * (T' - a) : Nat) : Int) = (r : Int) * ((T' : Int) - (a : Int)) := by rw [Int.natCast_mul, Int.natCast_sub ha]
            have hp0 : 0 ≤ (r : Int) * ((T' : Int) - (a : Int)) := by omega
            have hp1 : (r : Int) * ((T' : Int) - (a : Int)) ≤ 4323389671578009600 := by omega
            have hp2 : (S1 : Int) + (x : Int) ≤ (b : Int) + (r : Int) * ((T' : Int) - (a : Int)) := by omega
            clear hpe hpr hs
            go_wp2_with fail
            refine ⟨⟨j, by omega, rfl, ?_⟩, ?_⟩
            · rw [HE.out, Nat.add_comm]; rfl
            · simp [intOf]
    · by_cases hq : ats.length < len2
      · have hq' : len3 ≤ ats.length := by omega
        clear hlt
        go_wp2_with fail
        refine (works_any _).mono ?_
        rintro e w2 ⟨rfl, hO2⟩
        go_wp2
        go_ret
        exact ⟨rfl, hBel.trans (hO2.below hBel.size (fun _ _ h => h))⟩
      · clear hlt
        go_wp2_with fail
        refine (works_any _).mono ?_
        rintro e w2 ⟨rfl, hO2⟩
        go_wp2
        go_ret
        exact ⟨rfl, hBel.trans (hO2.below hBel.size (fun _ _ h => h))⟩

/-- Numbers that fit an unsigned kind, as naturals. -/
theorem toNat_getD {zs : List Int} (h : ∀ n ∈ zs, 0 ≤ n) (i : Nat) : zs.getD i 0 = (((zs.map Int.toNat).getD i 0 : Nat) : Int) := by
  by_cases hi : i < zs.length
  · have := h zs[i] (List.getElem_mem hi)
    simp [List.getD, hi]
    omega
  · simp [List.getD, hi]

theorem bounds_any (r b : Int) (a2 : Option Addr) (len2 cap2 : Nat) (z2 : List Int) (a3 : Option Addr) (len3 cap3 : Nat) (z3 : List Int) (w : World) (wr : (Lit.int .u16 r).wf = true) (wb : (Lit.int .u16 b).wf = true)
    (w2 : IsInts .u64 w a2 len2 cap2 z2) (w3 : IsInts .u16 w a3 len3 cap3 z3) :
    Calls Try.prog 3 #[.int .u16 r, .int .u16 b, .slice a2 len2 cap2, .slice a3 len3 cap3] w fun e w' => e = .returned (.bool true) ∧ Below w.heap.size w w' := by
  have br := bounds_u16 wr
  have bb := bounds_u16 wb
  obtain ⟨r, rfl⟩ := Int.eq_ofNat_of_zero_le br.1
  obtain ⟨b, rfl⟩ := Int.eq_ofNat_of_zero_le bb.1
  by_cases hl : 60 < len2 ∨ 60 < len3
  · exact bounds_long _ _ a2 len2 cap2 a3 len3 cap3 w hl
  · by_cases hz : len2 = 0 ∨ len3 = 0
    · exact bounds_none r b (by omega) (by omega) a2 len2 cap2 a3 len3 cap3 w (by omega) (by omega) hz
    · rcases w2 with ⟨_, h0, _⟩ | ⟨x2, rfl, hl2, hm2, hz2, hc2, hw2⟩
      · omega
      · rcases w3 with ⟨_, h0, _⟩ | ⟨x3, rfl, hl3, hm3, hz3, hc3, hw3⟩
        · omega
        · obtain ⟨c2, o2, rfl, hc2'⟩ := ints_at hc2 (by omega)
          obtain ⟨c3, o3, rfl, hc3'⟩ := ints_at hc3 (by omega)
          have g2 : ∀ n ∈ z2, 0 ≤ n := fun n hn => (bounds_u64 (hw2 n hn)).1
          have g3 : ∀ n ∈ z3, 0 ≤ n := fun n hn => (bounds_u16 (hw3 n hn)).1
          refine bounds_some r b (by omega) (by omega) c2 o2 len2 cap2 c3 o3 len3 cap3 (z2.map Int.toNat) (z3.map Int.toNat) w (by omega) (by omega) ?_ ?_ ?_ ?_ ?_
          · intro i hi
            rw [← toNat_getD g2]
            exact hc2' i (by omega)
          · intro i hi
            rw [← toNat_getD g3]
            exact hc3' i (by omega)
          · intro i
            by_cases hi : i < z3.length
            · have := bounds_u16 (hw3 z3[i] (List.getElem_mem hi))
              simp [List.getD, hi]
              omega
            · simp [List.getD, hi]
          · exact World.block_lt_of_cell? w _ (hc2' 0 (by omega))
          · exact World.block_lt_of_cell? w _ (hc3' 0 (by omega))
end Go.Proofs.Ytkghnapodbodkaa

/- Whether a rule is right: walked. -/
import Derived.Test.YtcbkcalemfminaaRu6
namespace Go.Proofs.Ytcbkcalemfminaa
open Go.RowKit
attribute [local go_sem ↓] load_ad load_pf load_ru load_ky load_bs build_pf build_ru rows_pf rows_ru

def bad1 (v p : Int) : Bool := (decide (v ≠ 0) && decide (v ≠ 4) && decide (v ≠ 6)) || decide (p < -1) || decide (255 < p)
def pfBad (v : Int) (p : Pf) : Bool := !p.right || (!p.isNone && (v != 0) && (v != p.a.ver))
def Ru.right (r : Ru) : Bool := !bad1 r.ver r.proto && !pfBad r.ver r.src && !pfBad r.ver r.dst && (decide (r.slo ≤ r.shi) && decide (r.dlo ≤ r.dhi)) && decide (0 ≤ r.cls) && decide (r.cls < 8) && (!r.deny || decide (r.cls = 0))

theorem none_b {p : Pf} (hp : p.a.Ok) (w : World) :
    Calls Try.prog 44 #[.agg p.arr] w fun e w' => e = .returned (.bool p.isNone) ∧ Below w.heap.size w w' := none_is hp w

/-- Ahead of each prefix. -/
def PfRel (W : World) (v : Int) (s d : Pf) (i : Value) (w : World) : Prop :=
  ∃ k : Nat, i = .int .i64 k ∧ k ≤ 2 ∧ Below W.heap.size W w ∧ (1 ≤ k → pfBad v s = false) ∧ (2 ≤ k → pfBad v d = false)

theorem range_two {w : World} {g : Nat} {p q : Pf} (hp : p.a.Ok) (h : w.heap[g]? = some (.cells (p.cs ++ q.cs).toArray 39 (0, 0))) : w.rangeAt g 0 p.cs ∧ w.rangeAt g 18 q.cs := by
  have hr := range_block h
  refine ⟨?_, ?_⟩
  · have := range_part (xs := []) (ys := p.cs) (zs := q.cs) (n := 0) (by simpa using hr) rfl
    simpa using this
  · have := range_part (xs := p.cs) (ys := q.cs) (zs := []) (n := 18) (by simpa using hr) (Pf.len_cs hp)
    simpa using this

set_option maxRecDepth 100000 in
set_option maxHeartbeats 2000000 in
theorem rright_is {r : Ru} (hr : r.Ok) (w : World) :
    Calls Try.prog 20 #[.agg r.arr] w fun e w' => e = .returned (.bool r.right) ∧ Below w.heap.size w w' := by
  go_enter Try.func20, Try.ntmps20
  go_upto_region 1 with (fail)
  have hB : Below w.heap.size w (w.alloc (.cells r.arr 43)) := (Below.refl _ _).alloc (Nat.le_refl _) _
  have g0 := alloc_block_new w (.cells r.arr 43)
  generalize w.alloc (.cells r.arr 43) = w1 at *
  generalize hb : w.heap.size = b at *
  have hl := lt_of_obj g0
  have hR : w1.rangeAt b 0 r.cs := range_block g0
  have HB := Lib.hid (And.intro hb (And.intro hB hR))
  clear hb hB g0
  have k0 := Ru.c0 hR
  have k1 := Ru.c1 hR
  clear hR
  go_cut [28] (fun v w' => v = .bool (bad1 r.ver r.proto) ∧ w' = w1)
  case first =>
    have hv : r.ver = 0 ∨ (¬ r.ver = 0 ∧ r.ver = 4) ∨ (¬ r.ver = 0 ∧ ¬ r.ver = 4 ∧ r.ver = 6) ∨ (¬ r.ver = 0 ∧ ¬ r.ver = 4 ∧ ¬ r.ver = 6) := by omega
    have hp : r.proto < -1 ∨ (¬ r.proto < -1 ∧ 255 < r.proto) ∨ (¬ r.proto < -1 ∧ ¬ 255 < r.proto) := by omega
    rcases hv with v0 | ⟨v0, v4⟩ | ⟨v0, v4, v6⟩ | ⟨v0, v4, v6⟩ <;> rcases hp with p1 | ⟨p1, p2⟩ | ⟨p1, p2⟩
    all_goals
      go_wp2_with fail
      go_meet
      case rel => exact ⟨by simp_all [bad1], rfl⟩
  case rest =>
    obtain ⟨rfl, rfl⟩ := hcut
    obtain ⟨w1, rfl⟩ : ∃ wo : World, wo = wc := ⟨_, rfl⟩
    cases hb1 : bad1 r.ver r.proto with
    | true =>
      go_wp2_with fail
      go_ret
      exact ⟨by simp [Ru.right, hb1], by rw [HB.out.1]; exact HB.out.2.1⟩
    | false =>
      clear k0 k1
      have l1 := row_pf hr.s (Ru.rSrc HB.out.2.2)
      have l2 := row_pf hr.d (Ru.rDst hr HB.out.2.2)
      have hbs := built_pfs hr.s hr.d
      go_wp2_with fail
      have hg := alloc_block_new w1 (.cells (r.src.cs ++ r.dst.cs).toArray 39)
      have hB2 : Below w1.heap.size w1 (w1.alloc (.cells (r.src.cs ++ r.dst.cs).toArray 39)) := (Below.refl _ _).alloc (Nat.le_refl _) _
      generalize w1.alloc (.cells (r.src.cs ++ r.dst.cs).toArray 39) = w2 at *
      generalize w1.heap.size = g at *
      obtain ⟨hq1, hq2⟩ := range_two hr.s hg
      have hgl := lt_of_obj hg
      have HQ := Lib.hid (And.intro hq1 hq2)
      have hlt : b < w2.heap.size := by omega
      have H2 : Hid (w2.rangeAt b 0 r.cs ∧ Below b w w2) := ⟨fun j v hj => (hB2.cell (p := ⟨b, 0 + j, none⟩) hl).trans (HB.out.2.2 j v hj), HB.out.2.1.trans (hB2.mono (by omega))⟩
      have HBb := Lib.hid HB.out.1
      clear hg hB2 hq1 hq2 l1 l2 HB hl
      go_loopw [35] (PfRel w2 r.ver r.src r.dst) (fun i _ => 2 - (intOf i).toNat)
      case atStart => exact ⟨0, rfl, by omega, Below.refl _ _, fun h => by omega, fun h => by omega⟩
      case round =>
        obtain ⟨k, rfl, hk, hBk, hs1, hs2⟩ := hrel
        by_cases hk2 : k < 2
        · as_aux_lemma =>
          obtain ⟨p, hpo, hpr, hpe⟩ : ∃ p : Pf, p.a.Ok ∧ wr.rangeAt g (k * 18) p.cs ∧ ((k = 0 ∧ p = r.src) ∨ (k = 1 ∧ p = r.dst)) := by
            rcases (show k = 0 ∨ k = 1 by omega) with rfl | rfl
            · exact ⟨r.src, hr.s, by rw [Nat.zero_mul]; exact range_below HQ.out.1 hgl hBk, .inl ⟨rfl, rfl⟩⟩
            · exact ⟨r.dst, hr.d, by rw [Nat.one_mul]; exact range_below HQ.out.2 hgl hBk, .inr ⟨rfl, rfl⟩⟩
          have HK := Lib.hid (And.intro hs1 (And.intro hs2 (And.intro hpe hBk)))
          have l1 := row_pf hpo hpr
          have ki : (k : Int) < 2 := by omega
          have kr : wr.rangeAt b 0 r.cs := range_below H2.out.1 hlt hBk
          have hbk := hBk.size
          obtain ⟨wo, rfl⟩ : ∃ wo : World, wo = wr := ⟨_, rfl⟩
          have HKR := Lib.hid kr
          clear hs1 hs2 hpe hpr hBk kr hbs
          go_wp2_with (first | (refine wpList_store_blk rfl 39 (.tmp 4) (.tmp 38) rfl wo.heap.size p.arr rfl rfl 39 Pf.zero.arr (alloc_block_new wo (.cells Pf.zero.arr 39)) (by rw [Pf.arr_size hpo]; kernel_rfl) (by rw [Pf.arr_size hpo]; rfl) p.all ?_))
          intro w3 hS
          have hB3 : Below wo.heap.size wo w3 := ((Below.refl _ _).alloc (Nat.le_refl _) (.cells Pf.zero.arr 39)).trans (hS.only.below (by simp) (fun k hk e => by omega))
          have hc := hS.blk
          generalize wo.heap.size = c at *
          have hcl := lt_of_obj hc
          have hbo : b < c := by omega
          have F0 : ∀ z : Wld (fun x => Below w3.heap.size w3 x), (loadRow 39 (.pointer (some ⟨c, 0, none⟩))).run Try.prog z.w = .ok (.agg p.arr) z.w := fun z => row_pf hpo (range_below (range_block hc) hcl z.ok)
          have F1 : ∀ z : Wld (fun x => Below w3.heap.size w3 x), z.w.cell? ⟨b, 0, none⟩ = some (.int .i64 r.ver) := fun z => (z.ok.cell (p := ⟨b, 0, none⟩) (by show b < _; omega)).trans ((hB3.cell (p := ⟨b, 0, none⟩) hbo).trans (Ru.c0 HKR.out))
          haveI hne : Nonempty (Wld (fun x => Below w3.heap.size w3 x)) := ⟨⟨w3, Below.refl _ _⟩⟩
          have H3 := Lib.hid hB3
          clear hS hc hB3 l1
          go_upto_region 6 with (fail)
          go_cut [58] (fun v w' => v = .bool (pfBad r.ver p) ∧ Below w3.heap.size w3 w')
          case first =>
            as_aux_lemma =>
            have hcase : (p.right = false) ∨ (p.right = true ∧ p.isNone = true) ∨ (p.right = true ∧ p.isNone = false ∧ (r.ver != 0) = false) ∨ (p.right = true ∧ p.isNone = false ∧ (r.ver != 0) = true ∧ (r.ver != p.a.ver) = false) ∨ (p.right = true ∧ p.isNone = false ∧ (r.ver != 0) = true ∧ (r.ver != p.a.ver) = true) := by
              cases p.right <;> cases p.isNone <;> cases (r.ver != 0) <;> cases (r.ver != p.a.ver) <;> simp
            rcases hcase with h1 | ⟨h1, h2⟩ | ⟨h1, h2, h3⟩ | ⟨h1, h2, h3, h4⟩ | ⟨h1, h2, h3, h4⟩
            all_goals
              refine region_class (fun x => Below w3.heap.size w3 x) (by kernel_rfl) (by kernel_rfl) (Below.refl _ _).drew ?_
              repeat (go_big_quiet_step ((rename_i z; first
                | (go_at_call 43; exact (pright_is hpo _).mono fun e w' ⟨he, hb⟩ => ⟨by rw [he, h1], ⟨w', z.ok.trans (hb.mono z.ok.size)⟩, rfl⟩)
                | (go_at_call 44; exact (none_b hpo _).mono fun e w' ⟨he, hb⟩ => ⟨by rw [he, h2], ⟨w', z.ok.trans (hb.mono z.ok.size)⟩, rfl⟩)
                | (go_at_call 45; exact (version_is p _).mono fun e w' ⟨he, hb⟩ => ⟨he, ⟨w', z.ok.trans (hb.mono z.ok.size)⟩, rfl⟩))))
              refine wpQuiet_nil ?_
              intro w4 hB4
              have HB4 := Lib.hid hB4
              clear hB4 F0 F1 hne
              go_wp2_with fail
              go_meet
              case rel => exact ⟨by first | simp [pfBad, h1, h2, h3, h4] | simp [pfBad, h1, h2, h3] | simp [pfBad, h1, h2] | simp [pfBad, h1], HB4.out⟩
          case rest =>
            obtain ⟨rfl, hB4⟩ := hcut
            obtain ⟨w4, rfl⟩ : ∃ wo : World, wo = wc := ⟨_, rfl⟩
            have hBB := HK.out.2.2.2.trans ((H3.out.trans (hB4.mono (Nat.le_of_lt hcl))).mono hbk)
            have HBB := Lib.hid hBB
            clear F0 F1 hne hBB hB4 H3
            cases hbad : pfBad r.ver p with
            | true =>
              have hfin : r.right = false := by
                rcases HK.out.2.2.1 with ⟨_, e⟩ | ⟨_, e⟩
                · rw [e] at hbad; simp [Ru.right, hbad]
                · rw [e] at hbad; simp [Ru.right, hbad]
              have HF := Lib.hid hfin
              clear hfin hbad
              go_wp2_with fail
              go_ret
              exact ⟨by rw [HF.out]; rfl, by rw [HBb.out]; exact H2.out.2.trans (HBB.out.mono (by omega))⟩
            | false =>
              have HN : Hid (PfRel w2 r.ver r.src r.dst (.int .i64 (k + 1 : Nat)) w4) := by
                refine ⟨k + 1, rfl, by omega, HBB.out, fun h => ?_, fun h => ?_⟩
                · rcases HK.out.2.2.1 with ⟨_, e⟩ | ⟨h1, _⟩
                  · rw [← e]; exact hbad
                  · exact HK.out.1 (by omega)
                · rcases HK.out.2.2.1 with ⟨h1, _⟩ | ⟨_, e⟩
                  · omega
                  · rw [← e]; exact hbad
              clear hbad
              go_wp2_with fail
              go_roundw
              case rel => exact HN.out
              case measure => simp [intOf]; omega
        · obtain rfl : k = 2 := by omega
          have hb2 := hs1 (by omega)
          have hb3 := hs2 (by omega)
          have hkR := range_below H2.out.1 hlt hBk
          have HBk := Lib.hid (And.intro hb2 (And.intro hb3 hBk))
          have c38 := Ru.c38 hr hkR
          have c39 := Ru.c39 hr hkR
          have c40 := Ru.c40 hr hkR
          have c41 := Ru.c41 hr hkR
          have c42 := Ru.c42 hr hkR
          have c43 := Ru.c43 hr hkR
          clear hb2 hb3 hs1 hs2 hBk hkR hbs
          have hp : ((r.slo ≤ r.shi) ∧ r.dlo ≤ r.dhi) ∨ (r.slo ≤ r.shi ∧ ¬ r.dlo ≤ r.dhi) ∨ ¬ r.slo ≤ r.shi := by omega
          have hcc : r.cls < 0 ∨ (0 ≤ r.cls ∧ ¬ r.cls < 8) ∨ (0 ≤ r.cls ∧ r.cls < 8 ∧ r.cls = 0) ∨ (0 ≤ r.cls ∧ r.cls < 8 ∧ ¬ r.cls = 0) := by omega
          obtain ⟨dn, hdn⟩ : ∃ x, r.deny = x := ⟨_, rfl⟩
          rw [hdn] at c42
          have HD := Lib.hid hdn
          clear hdn
          go_upto_region 9 with (fail)
          go_cut [5] (fun v w' => v = .bool (decide (r.slo ≤ r.shi) && decide (r.dlo ≤ r.dhi)) ∧ w' = wr)
          case first =>
            as_aux_lemma =>
            rcases hp with ⟨p1, p2⟩ | ⟨p1, p2⟩ | p1
            all_goals
              go_wp2_with fail
              go_meet
              case rel => exact ⟨by first | simp [p1, p2] | simp [p1], rfl⟩
          case rest =>
            as_aux_lemma =>
            obtain ⟨rfl, rfl⟩ := hcut
            have HR : Hid (r.right = ((decide (r.slo ≤ r.shi) && decide (r.dlo ≤ r.dhi)) && decide (0 ≤ r.cls) && decide (r.cls < 8) && (!dn || decide (r.cls = 0)))) := by
              have h1 := HBk.out.1
              have h2 := HBk.out.2.1
              show r.right = _
              rw [Ru.right, hb1, h1, h2, HD.out]
              simp
            have HB5 := Lib.hid (H2.out.2.trans (HBk.out.2.2.mono (by omega)))
            generalize (decide (r.slo ≤ r.shi) && decide (r.dlo ≤ r.dhi)) = po at *
            clear c38 c39 c40 c41 hp HD
            cases po <;> cases dn <;> rcases hcc with h1 | ⟨h1, h2⟩ | ⟨h1, h2, h3⟩ | ⟨h1, h2, h3⟩
            all_goals
              go_wp2_with fail
              go_ret
              exact ⟨by rw [HR.out]; first | rfl | (simp; omega) | (simp [h1]; done) | (simp [h1, h2]; done) | (simp [h1, h2, h3]; done), by rw [HBb.out]; exact HB5.out⟩
end Go.Proofs.Ytcbkcalemfminaa

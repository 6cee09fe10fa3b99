/- How much of a write is done, walked. -/
import Derived.Test.YtbgjahgmkbbgjaaDk7
import Derived.Test.YtbgjahgmkbbgjaaDlaw
import Derived.Laws.EntriesVeiled
namespace Go.Proofs.Ytbgjahgmkbbgjaa
open Go.RowKit

theorem lost_is (a : Nat) (y : Value) (n : Int) (w : World) :
    Calls Try.prog 21 #[.agg #[.int .i64 a, y], .int .i64 n] w fun e w' => e = .returned (.int .i64 0) ∧ Below w.heap.size w w' := by
  go_enter Try.func21, Try.ntmps21
  go_wp2_with fail
  go_ret
  exact ⟨rfl, (Below.refl _ _).alloc (Nat.le_refl _) _⟩
theorem kept_is (a : Nat) (ya : Option Addr) (len cap : Nat) (n : Int) (w : World) :
    Calls Try.prog 22 #[.agg #[.int .i64 a, .slice ya len cap], .int .i64 n] w fun e w' => e = .returned (.int .i64 len) ∧ Below w.heap.size w w' := by
  go_enter Try.func22, Try.ntmps22
  go_wp2_with fail
  go_ret
  exact ⟨rfl, (Below.refl _ _).alloc (Nat.le_refl _) _⟩
theorem torn_is (a : Nat) (ya : Option Addr) (len cap : Nat) (n : Int) (w : World) :
    Calls Try.prog 23 #[.agg #[.int .i64 a, .slice ya len cap], .int .i64 n] w fun e w' => e = .returned (.int .i64 ((min n len).toNat : Nat)) ∧ Below w.heap.size w w' := by
  rw [show (((min n len).toNat : Nat) : Int) = if (len : Int) < n then (len : Int) else if 0 < n then n else 0 by split <;> (try split) <;> omega]
  by_cases h1 : (len : Int) < n
  · rw [if_pos h1]
    by_cases h0 : (0 : Int) < len
    · go_enter Try.func23, Try.ntmps23
      go_wp2_with fail
      go_ret
      exact ⟨rfl, (Below.refl _ _).alloc (Nat.le_refl _) _⟩
    · go_enter Try.func23, Try.ntmps23
      go_wp2_with fail
      go_ret
      exact ⟨ret_int (by omega), (Below.refl _ _).alloc (Nat.le_refl _) _⟩
  · rw [if_neg h1]
    by_cases h0 : (0 : Int) < n
    · rw [if_pos h0]
      go_enter Try.func23, Try.ntmps23
      go_wp2_with fail
      go_ret
      exact ⟨rfl, (Below.refl _ _).alloc (Nat.le_refl _) _⟩
    · rw [if_neg h0]
      go_enter Try.func23, Try.ntmps23
      go_wp2_with fail
      go_ret
      exact ⟨rfl, (Below.refl _ _).alloc (Nat.le_refl _) _⟩

/-- The fates that are handed in. -/
def Fates (w : World) (v : Value) (fs : List (Int × Int)) : Prop :=
  ∃ ao cap, v = .slice ao fs.length cap ∧ (0 < fs.length → ∃ b o, ao = some ⟨b, o, none⟩ ∧ b < w.heap.size ∧ ∀ j k a, fs[j]? = some (k, a) → w.cell? ⟨b, o + j * 2, none⟩ = some (.int .i64 k) ∧ w.cell? ⟨b, o + j * 2 + 1, none⟩ = some (.int .i64 a))

theorem Fates.keep {w w' : World} {v : Value} {fs : List (Int × Int)} (h : Fates w v fs) (hs : w.heap.size ≤ w'.heap.size) (hk : ∀ k, v.ownBlock = some k → w'.heap[k]? = w.heap[k]?) : Fates w' v fs := by
  obtain ⟨ao, cap, rfl, h1⟩ := h
  refine ⟨ao, cap, rfl, fun h0 => ?_⟩
  obtain ⟨b, o, rfl, hb, hc⟩ := h1 h0
  refine ⟨b, o, rfl, Nat.lt_of_lt_of_le hb hs, fun j k a hj => ?_⟩
  obtain ⟨c0, c1⟩ := hc j k a hj
  have hbk := hk b rfl
  exact ⟨(World.cell?_of_block (w := w) hbk).trans c0, (World.cell?_of_block (w := w) hbk).trans c1⟩

theorem Fates.lt {w : World} {v : Value} {fs : List (Int × Int)} (h : Fates w v fs) (h0 : 0 < fs.length) : ∀ k, v.ownBlock = some k → k < w.heap.size := by
  obtain ⟨ao, cap, rfl, h1⟩ := h
  obtain ⟨b, o, rfl, hb, _⟩ := h1 h0
  intro k hk
  injection hk with hk
  subst hk
  exact hb

/-- Is there a fate for a write, that does something? -/
def fateB (fs : List (Int × Int)) (k : Nat) : Bool := match fs[k]? with | some (K, _) => decide (0 < K) && decide (K < 3) | none => false

theorem am_none {fs : List (Int × Int)} {k : Nat} (h : fateB fs k = false) (d : List Nat) : am fs k d = 0 := by
  unfold fateB at h
  unfold am
  cases e : fs[k]? with
  | none => rfl
  | some x =>
    obtain ⟨K, A⟩ := x
    simp [e] at h
    simp only [amount]
    rw [if_neg (by omega), if_neg (by omega)]

theorem cr_next {fs : List (Int × Int)} {k n a : Nat} {d b : List Nat} {l : List (Nat × List Nat)} (he : l[k]? = some (a, d)) (hm : am fs k d = n) : laid (cr (am fs) b (l.take k) 0) a (d.take n) = cr (am fs) b (l.take (k + 1)) 0 := by
  have hk : k < l.length := (List.getElem?_eq_some_iff.1 he).1
  have ht : l.take (k + 1) = l.take k ++ [(a, d)] := by rw [List.take_add_one, he]; rfl
  rw [ht, cr_snoc, List.length_take, Nat.min_eq_left (Nat.le_of_lt hk), Nat.zero_add, hm]

theorem IsD.setNil {w : World} {p : Nat} {r : Nat → Nat} {D : DS} {dv nv uv : Value} {xs : List Value} (h : IsD w p r D dv nv uv xs) :
    IsD (w.setCell ⟨p, 2, none⟩ (.slice none 0 0)) p r ⟨D.dur, D.now, []⟩ dv nv (.slice none 0 0) [] ∧ Only (· = p) w (w.setCell ⟨p, 2, none⟩ (.slice none 0 0)) := by
  obtain ⟨hC, hCO⟩ := set2_block h.blk (.slice none 0 0)
  refine ⟨⟨hC, own_only h.dur hCO (fun k hk e => ?_), own_only h.now hCO (fun k hk e => ?_), World.ownsRow_nil _ _ _ _, trivial, h.rp, h.rd, h.rn, fun k hk => (by cases hk), fun k hk => Nat.lt_of_lt_of_le (h.lt k hk) hCO.size⟩, hCO⟩
  · have := h.rd k hk; subst e; rw [h.rp] at this; exact absurd this (by decide)
  · have := h.rn k hk; subst e; rw [h.rp] at this; exact absurd this (by decide)

/-- At the head of a round of Crash's. -/
def CRel (W1 : World) (p : Nat) (r : Nat → Nat) (D : DS) (dv nv uv : Value) (xs : List Value) (fs : List (Int × Int)) (i : Value) (wr : World) : Prop :=
  ∃ k : Nat, i = .int .i64 k ∧ k ≤ D.uns.length ∧ IsD wr p r ⟨cr (am fs) D.dur (D.uns.take k) 0, D.now, D.uns⟩ dv nv uv xs ∧ Only (fun k => r k ≠ 0) W1 wr

theorem crash_nil (v : Value) (w : World) :
    Calls Try.prog 11 #[.pointer none, v] w fun e w' => e = .returned (.int .i64 0) ∧ w' = w := by
  go_enter Try.func11, Try.ntmps11
  go_wp2_with fail
  go_ret
  exact ⟨rfl, rfl⟩

/-- The fate of the write at hand lies in block g. -/
def CFate (w1 : World) (g : Nat) (fs : List (Int × Int)) (k : Nat) (d : List Nat) (w' : World) : Prop :=
  ∃ K A : Int, w'.cell? ⟨g, 0, none⟩ = some (.int .i64 K) ∧ w'.cell? ⟨g, 1, none⟩ = some (.int .i64 A) ∧ (K = 0 ∨ K = 1 ∨ K = 2) ∧ amount K A d.length = am fs k d ∧ Only (· = g) w1 w'

theorem fateB_some {fs : List (Int × Int)} {k : Nat} (h : fateB fs k = true) : ∃ K A : Int, fs[k]? = some (K, A) ∧ (K = 1 ∨ K = 2) := by
  unfold fateB at h
  cases e : fs[k]? with
  | none => simp [e] at h
  | some x =>
    obtain ⟨K, A⟩ := x
    simp [e] at h
    exact ⟨K, A, rfl, by omega⟩

theorem Holds8.take {w : World} {ya : Option Addr} {yc : Nat} {d : List Nat} (h : Holds8 w (.slice ya d.length yc) d) (n : Nat) (hn : n ≤ d.length) : Holds8 w (.slice ya n yc) (d.take n) := by
  obtain ⟨ao, cap, e, h1, h2, h3, h4⟩ := h
  injection e with e1 _ e3
  subst e1 e3
  have hl : (d.take n).length = n := by simp; omega
  refine ⟨_, _, by rw [hl], by omega, h2, fun h0 => h3 (by omega), fun h0 => ?_⟩
  obtain ⟨b, o, rfl, hc⟩ := h4 (by omega)
  refine ⟨b, o, rfl, fun j hj => ?_⟩
  rw [hc j (by omega)]
  simp [List.getD, List.getElem?_take_of_lt (show j < n by omega)]

theorem step_copy_by {P : Program} {ops : Array Oper} {o : Oper} {a : Act} {w : World} {K : Act → World → Prop} {Q : Exit → Act → World → Prop} {E : Prop} (hgd : o.guard = none) (d s : Operand) (t t' : TypeId)
    (ho : o.op = .call { callee := .builtin .copy, args := #[d, s], argTypes := #[t, t'] }) (v u : Value) (hd : a.eval d = v) (hs : a.eval s = u) {v' : Value} {w' : World}
    (hr : (Builtin.copy_ #[t, t'] o.type #[v, u]).run P w = .ok v' w') (hK : K (a.put o.dst v') w') :
    if Region.wanted o (yielded ops a.tmps) = true then Oper.wp P o a w K Q else E := by
  rw [if_pos (show Region.wanted o (yielded ops a.tmps) = true by simp only [Region.wanted, hgd])]
  unfold Oper.wp execOp
  simp only [ho, resolve, invoke, builtin, Sem.run_bind, Sem.run_pure, Result.andThen_ok, List.map_toArray, List.map_cons, List.map_nil, hd, hs, hr]
  exact hK

set_option maxRecDepth 100000 in
set_option maxHeartbeats 2000000 in
theorem crash_is {w : World} {p : Nat} {r : Nat → Nat} {D : DS} {dv nv uv : Value} {xs : List Value} (h : IsD w p r D dv nv uv xs) (fv : Value) (fs : List (Int × Int)) (hf : Fates w fv fs) (hfr : 0 < fs.length → ∀ k, fv.ownBlock = some k → r k = 0)
    (hu : D.uns.length ≤ 1000000) (_hN : D.dur.length ≤ 65536) (hsame : D.dur.length = D.now.length) (hl : Lie D.dur.length D.uns) (hpos : ∀ x ∈ D.uns, 0 < x.2.length) (hfl : fs.length ≤ 1000000) :
    Calls Try.prog 11 #[.pointer (some ⟨p, 0, none⟩), fv] w fun e w' => e = .returned (.int .i64 D.uns.length) ∧
      IsD w' p r ⟨cr (am fs) D.dur D.uns 0, cr (am fs) D.dur D.uns 0, []⟩ dv nv (.slice none 0 0) [] ∧ Only (fun k => r k ≠ 0) w w' := by
  obtain ⟨ua, uc, huv⟩ := own_shape h.uns
  obtain ⟨fa, fc, hfv, _⟩ := id hf
  have c2 := h.c2
  rw [huv] at c2
  have hp := lt_of_obj h.blk
  have HU := Lib.hid h
  have HF := Lib.hid hf
  have HFR := Lib.hid hfr
  have HUV := Lib.hid huv
  have HL := Lib.hid hl
  have HP := Lib.hid hpos
  have HS := Lib.hid hsame
  subst hfv
  clear h hf hfr huv hl hpos hsame
  go_enter Try.func11, Try.ntmps11
  go_wp2_with fail
  have hT := alloc_block_new w (.cells #[.func (.func 21) #[] #[], .func (.func 22) #[] #[], .func (.func 23) #[] #[]] 56)
  have hB1 : Below w.heap.size w (w.alloc (.cells #[.func (.func 21) #[] #[], .func (.func 22) #[] #[], .func (.func 23) #[] #[]] 56)) := (Below.refl _ _).alloc (Nat.le_refl _) _
  have hrt : r w.heap.size = 0 := by
    rcases Nat.eq_zero_or_pos (r w.heap.size) with e | e
    · exact e
    · exact absurd (HU.out.lt _ (by omega)) (Nat.lt_irrefl _)
  generalize w.alloc (.cells #[.func (.func 21) #[] #[], .func (.func 22) #[] #[], .func (.func 23) #[] #[]] 56) = w1 at *
  obtain ⟨tb, etb⟩ : ∃ t, w.heap.size = t := ⟨_, rfl⟩
  rw [show (some (⟨w.heap.size, 0, none⟩ : Addr)) = some ⟨tb, 0, none⟩ by rw [etb]]
  rw [etb] at hT hrt
  have HT := Lib.hid hT
  have HRT := Lib.hid hrt
  have HB1 := Lib.hid hB1
  clear hT hB1 etb hrt
  go_loopw [18] (CRel w1 p r D dv nv uv xs fs) (fun i _ => D.uns.length - (intOf i).toNat)
  case atStart => exact ⟨0, rfl, Nat.zero_le _, HU.out.below HB1.out, Only.refl _ _⟩
  case round =>
    obtain ⟨k, rfl, hk, hD, hO⟩ := hrel
    have hOw : Only (fun k => r k ≠ 0) w wr := (Below.only HB1.out _).trans hO
    by_cases hlt : k < D.uns.length
    · obtain ⟨g, cap, a, d, y, e0, hg, e1, k0, k1, hy, hr5⟩ := hD.write_at k hlt
      rw [HUV.out] at e0
      injection e0 with e0 _ e0'
      subst e0
      dsimp only at e1 hy
      obtain ⟨ya, yc, hyv⟩ := hy.shape
      rw [hyv] at k1
      have HD := Lib.hid hD
      have HO := Lib.hid hO
      have HOW := Lib.hid hOw
      have HE := Lib.hid e1
      have HY := Lib.hid hy
      have HYV := Lib.hid hyv
      have HR5 := Lib.hid hr5
      clear hD hO hOw e1 hy hyv hr5 e0'
      go_upto_region 8 with (fail)
      have hw3 : Below wr.heap.size wr ((wr.alloc (.cells #[.int .i64 a, .slice ya d.length yc] 46)).alloc (.cells #[.int .i64 0, .int .i64 0] 44)) := ((Below.refl _ _).alloc (Nat.le_refl _) _).alloc (by simp) _
      have hg0 : ((wr.alloc (.cells #[.int .i64 a, .slice ya d.length yc] 46)).alloc (.cells #[.int .i64 0, .int .i64 0] 44)).heap[wr.heap.size]? = some (.cells #[.int .i64 a, .slice ya d.length yc] 46 (0, 0)) := (alloc_block_old _ (by simp)).trans (alloc_block_new wr _)
      have hh0 : ((wr.alloc (.cells #[.int .i64 a, .slice ya d.length yc] 46)).alloc (.cells #[.int .i64 0, .int .i64 0] 44)).heap[wr.heap.size + 1]? = some (.cells #[.int .i64 0, .int .i64 0] 44 (0, 0)) := alloc_block_at _ _ (by simp)
      generalize (wr.alloc (.cells #[.int .i64 a, .slice ya d.length yc] 46)).alloc (.cells #[.int .i64 0, .int .i64 0] 44) = w3 at *
      obtain ⟨g1, eg1⟩ : ∃ t, wr.heap.size = t := ⟨_, rfl⟩
      obtain ⟨g2, eg2⟩ : ∃ t, wr.heap.size + 1 = t := ⟨_, rfl⟩
      rw [eg2] at hh0 ⊢
      rw [show (some (⟨wr.heap.size, 0, none⟩ : Addr)) = some ⟨g1, 0, none⟩ by rw [eg1]]
      rw [eg1] at hg0
      have hgg : g1 < g2 := by omega
      have hge : wr.heap.size ≤ g1 := by omega
      have HW3 := Lib.hid hw3
      have HG0 := Lib.hid hg0
      have HH0 := Lib.hid hh0
      clear hw3 hg0 hh0 eg1 eg2 k0 k1
      go_cut [42] (fun v w' => v = .bool (fateB fs k) ∧ w' = w3)
      case first =>
        by_cases hkf : k < fs.length
        · obtain ⟨⟨K, A⟩, hKA⟩ : ∃ x, fs[k]? = some x := ⟨_, List.getElem?_eq_getElem hkf⟩
          have hF3 : Fates w3 (.slice fa fs.length fc) fs := (HF.out.keep HOW.out.size (fun j hj => HOW.out.block j (HF.out.lt (by omega) j hj) (fun e => e (HFR.out (by omega) j hj)))).keep HW3.out.size (fun j hj => HW3.out.block j (Nat.lt_of_lt_of_le (HF.out.lt (by omega) j hj) HOW.out.size))
          obtain ⟨ao, cap, efv, hc⟩ := hF3
          injection efv with efa _ efc
          subst efa
          subst efc
          obtain ⟨fb, fo, rfl, hfb, hcc⟩ := hc (by omega)
          obtain ⟨f0, f1⟩ := hcc k K A hKA
          have hfe : fateB fs k = (decide (0 < K) && decide (K < 3)) := by simp [fateB, hKA]
          have HFE := Lib.hid hfe
          clear hc hcc hfe hKA
          by_cases h0 : 0 < K
          · by_cases h3 : K < 3
            · go_wp2_with fail
              go_meet
              case rel => exact ⟨by rw [HFE.out]; simp; omega, rfl⟩
            · go_wp2_with fail
              go_meet
              case rel => exact ⟨by rw [HFE.out]; simp; omega, rfl⟩
          · go_wp2_with fail
            go_meet
            case rel => exact ⟨by rw [HFE.out]; simp; omega, rfl⟩
        · have HFE := Lib.hid (show fateB fs k = false by simp [fateB, List.getElem?_eq_none (Nat.le_of_not_lt hkf)])
          go_wp2_with fail
          go_meet
          case rel => exact ⟨by rw [HFE.out], rfl⟩
      case rest =>
        obtain ⟨rfl, rfl⟩ := hcut
        obtain ⟨w3, rfl⟩ : ∃ x : World, x = wc := ⟨_, rfl⟩
        have y0 : w3.cell? ⟨g2, 0, none⟩ = _ := cell_of_block HH0.out 0
        have y1 : w3.cell? ⟨g2, 1, none⟩ = _ := cell_of_block HH0.out 1
        have z0 := free_of_block HH0.out 0
        have z1 := free_of_block HH0.out 1
        go_upto_if 42 with (fail)
        go_cut [42] (fun (_ : Value) w' => CFate w3 g2 fs k d w')
        case first =>
          cases hfb : fateB fs k with
          | false =>
            have HFB := Lib.hid hfb
            clear hfb
            go_wp2_with fail
            go_meet
            case rel => exact ⟨0, 0, y0, y1, .inl rfl, (am_none HFB.out d).symm, Only.refl _ _⟩
          | true =>
            obtain ⟨K, A, hKA, hK⟩ := fateB_some hfb
            have hkf : k < fs.length := (List.getElem?_eq_some_iff.1 hKA).1
            have hF3 : Fates w3 (.slice fa fs.length fc) fs := (HF.out.keep HOW.out.size (fun j hj => HOW.out.block j (HF.out.lt (by omega) j hj) (fun e => e (HFR.out (by omega) j hj)))).keep HW3.out.size (fun j hj => HW3.out.block j (Nat.lt_of_lt_of_le (HF.out.lt (by omega) j hj) HOW.out.size))
            obtain ⟨ao, cap, efv, hc⟩ := hF3
            injection efv with efa _ efc
            subst efa
            subst efc
            obtain ⟨fb, fo, rfl, hfb2, hcc⟩ := hc (by omega)
            obtain ⟨f0, f1⟩ := hcc k K A hKA
            have hne : ¬ fb = g2 := by
              have := HF.out.lt (by omega) fb rfl
              have := HOW.out.size
              omega
            have hne2 : ¬ g2 = fb := fun e => hne e.symm
            have HFB := Lib.hid hfb
            have HKA := Lib.hid hKA
            have HK := Lib.hid hK
            clear hfb hKA hc hcc hK
            go_wp2_with fail
            go_meet
            case rel =>
              refine ⟨K, A, by simp [go_sem, y0], by simp [go_sem, y1], .inr HK.out, by simp [am, HKA.out], ?_⟩
              exact Only.setCell (p := ⟨g2, 1, none⟩) (Only.setCell (p := ⟨g2, 0, none⟩) (Only.refl (· = g2) w3) (fun _ => rfl) _) (fun _ => rfl) _
        case rest =>
          obtain ⟨K, A, y0', y1', hK3, ham, hOg⟩ := hcut
          have hBrc : Below wr.heap.size wr wc := HW3.out.trans (hOg.below HW3.out.size (fun j hj e => by omega))
          have hD3 := HD.out.below hBrc
          have hT3 : wc.heap[tb]? = some (.cells #[.func (.func 21) #[] #[], .func (.func 22) #[] #[], .func (.func 23) #[] #[]] 56 (0, 0)) := by
            exact (hBrc.block tb (Nat.lt_of_lt_of_le (lt_of_obj HT.out) HO.out.size)).trans (HO.out.keep HT.out (by rw [HRT.out]; exact fun h => h rfl))
          have c0 := hD3.c0
          have hyw : Own8 wc 0 y d := own_below HY.out hBrc
          have hlen : (cr (am fs) D.dur (D.uns.take k) 0).length = D.dur.length := cr_len _ _ _ _ (fun x hx => HL.out x (List.mem_of_mem_take hx))
          have hla : a + d.length ≤ D.dur.length := HL.out (a, d) (List.mem_of_getElem? HE.out)
          have hdp : 0 < d.length := HP.out (a, d) (List.mem_of_getElem? HE.out)
          obtain ⟨db, dc, hdv⟩ := hD3.dur.shape
          have hcap : D.dur.length ≤ dc := by have := own_cap hD3.dur hdv; rw [← hlen]; exact this
          rw [hdv] at c0
          dsimp only at c0 hdv
          rw [hlen] at c0 hdv
          have hycap : d.length ≤ yc := own_cap hyw HYV.out
          have hy8 : Holds8 wc (.slice ya d.length yc) d := by rw [← HYV.out]; exact hyw.holds
          have t0 : wc.cell? ⟨tb, 0, none⟩ = _ := cell_of_block hT3 0
          have t1 : wc.cell? ⟨tb, 1, none⟩ = _ := cell_of_block hT3 1
          have t2 : wc.cell? ⟨tb, 2, none⟩ = _ := cell_of_block hT3 2
          have hG3 : wc.heap[g1]? = some (.cells #[.int .i64 a, .slice ya d.length yc] 46 (0, 0)) := hOg.keep HG0.out (by omega)
          have x0 : wc.cell? ⟨g1, 0, none⟩ = _ := cell_of_block hG3 0
          have x1 : wc.cell? ⟨g1, 1, none⟩ = _ := cell_of_block hG3 1
          have hpc := lt_of_obj hD3.blk
          have htc := lt_of_obj hT3
          have hgc := lt_of_obj hG3
          have hhc : g2 < wc.heap.size := Nat.lt_of_lt_of_le (lt_of_obj HH0.out) hOg.size
          dsimp at t0 t1 t2 x0 x1
          have HY8 := Lib.hid hy8
          have HD3 := Lib.hid hD3
          have HDV := Lib.hid hdv
          have HLEN := Lib.hid hlen
          have HAM := Lib.hid ham
          have HWC := Lib.hid hBrc
          clear hD3 hT3 hyw hlen hdv hy8 hG3 y0 y1 z0 z1 ham hBrc hOg
          have HRD := Lib.hid HU.out.rd
          have HRP := Lib.hid HU.out.rp
          have hrz : ∀ j, w.heap.size ≤ j → r j ≠ 2 := fun j hj e => by have := HU.out.lt j (by omega); omega
          have HR1 : Hid (r g1 ≠ 2) := hrz g1 (by have := HOW.out.size; omega)
          have HR2 : Hid (r g2 ≠ 2) := hrz g2 (by have := HOW.out.size; omega)
          clear hrz
          have ia : (0 : Int) ≤ (a : Int) := by omega
          have ia2 : (a : Int) ≤ (dc : Int) := by omega
          have ia3 : (a : Int) ≤ (D.dur.length : Int) := by omega
          have ia4 : (a : Int) < (dc : Int) := by omega
          rcases hK3 with rfl | rfl | rfl
          · obtain ⟨n, hn⟩ : ∃ n : Nat, (0 : Nat) = n := ⟨_, rfl⟩
            have ct : Hid (∀ w, Calls Try.prog 21 #[.agg #[.int .i64 a, .slice ya d.length yc], .int .i64 A] w fun e w' => e = .returned (.int .i64 n) ∧ Below w.heap.size w w') := fun w => hn ▸ lost_is a _ A w
            have HAM : Hid (am fs k d = n) := (show am fs k d = n by rw [← HAM.out, ← hn]; simp [amount])
            have hnl : n ≤ d.length := by omega
            clear hn
            have iy : (n : Int) ≤ (d.length : Int) := by omega
            have iy2 : (n : Int) ≤ (yc : Int) := by omega
            have iy0 : (0 : Int) ≤ (n : Int) := by omega
            go_wp2_with fail
            go_region_held3 (fun w' => w'.cell? ⟨p, 0, none⟩ = some (.slice db D.dur.length dc) ∧ (w'.cell? ⟨tb, 0, none⟩ = some (.func (.func 21) #[] #[]) ∧ w'.cell? ⟨tb, 1, none⟩ = some (.func (.func 22) #[] #[]) ∧ w'.cell? ⟨tb, 2, none⟩ = some (.func (.func 23) #[] #[])) ∧
                w'.cell? ⟨g1, 0, none⟩ = some (.int .i64 a) ∧ w'.cell? ⟨g1, 1, none⟩ = some (.slice ya d.length yc) ∧ w'.cell? ⟨g2, 0, none⟩ = some (.int .i64 0) ∧ w'.cell? ⟨g2, 1, none⟩ = some (.int .i64 A)) (go_keep)
              (first
                | (obtain ⟨w6, hrun, hn6, hO6, hs6⟩ := run_copy8 (HD4.out).dur a (ys := d.take n) (by rw [HLEN.out]; simp; omega) 3 db dc (dc - a) (by rw [HLEN.out]; exact HDV.out) _ (.inl rfl) ((HY8.out.below HB4.out).take n hnl)
                   rw [HLEN.out] at hrun
                   refine step_copy_by rfl (.tmp 53) (.tmp 64) 31 31 rfl _ _ rfl rfl hrun ?_
                   have e6 : ∀ b o, b < w4.heap.size → r b ≠ 2 → w6.cell? ⟨b, o, none⟩ = w4.cell? ⟨b, o, none⟩ := fun b o hb hr => World.cell?_of_block (w := w4) (hO6.block b hb (fun e => hr (HRD.out b e)))
                   have hs4 := HB4.out.size
                   have c06 := (e6 p 0 (by omega) (by rw [HRP.out]; decide)).trans c0'
                   have t06 := (e6 tb 0 (by omega) (by rw [HRT.out]; decide)).trans t0'
                   have t16 := (e6 tb 1 (by omega) (by rw [HRT.out]; decide)).trans t1'
                   have t26 := (e6 tb 2 (by omega) (by rw [HRT.out]; decide)).trans t2'
                   have x06 := (e6 g1 0 (by omega) HR1.out).trans x0'
                   have x16 := (e6 g1 1 (by omega) HR1.out).trans x1'
                   have y06 := (e6 g2 0 (by omega) HR2.out).trans y0''
                   have y16 := (e6 g2 1 (by omega) HR2.out).trans y1''
                   have HN6 := Lib.hid hn6
                   have HO6 := Lib.hid hO6
                   clear hrun hn6 hO6 hs6 e6)
                | (go_at_call 21; refine (ct.out _).mono ?_
                   rintro e w4 ⟨rfl, hB4⟩
                   have hB4' : Below wc.heap.size wc w4 := (Below.refl _ _).drew.trans hB4
                   have HB4 := Lib.hid hB4'
                   have HD4 := Lib.hid (HD3.out.below hB4')
                   have c0' := (hB4.cell (p := ⟨p, 0, none⟩) hpc).trans c0
                   have t0' := (hB4.cell (p := ⟨tb, 0, none⟩) htc).trans t0
                   have t1' := (hB4.cell (p := ⟨tb, 1, none⟩) htc).trans t1
                   have t2' := (hB4.cell (p := ⟨tb, 2, none⟩) htc).trans t2
                   have x0' := (hB4.cell (p := ⟨g1, 0, none⟩) hgc).trans x0
                   have x1' := (hB4.cell (p := ⟨g1, 1, none⟩) hgc).trans x1
                   have y0'' := (hB4.cell (p := ⟨g2, 0, none⟩) hhc).trans y0'
                   have y1'' := (hB4.cell (p := ⟨g2, 1, none⟩) hhc).trans y1'
                   clear hB4 hB4'))
            have hD6 := HD4.out.setDur HN6.out HO6.out
            dsimp only at hD6
            rw [cr_next HE.out HAM.out] at hD6
            have hO6' : Only (fun j => r j ≠ 0) w1 w6 := HO.out.trans ((Below.only HWC.out _).trans ((Below.only HB4.out _).trans (HO6.out.mono (fun j _ e => by rw [HRD.out j e]; decide))))
            have HREL : Hid (CRel w1 p r D dv nv uv xs fs (.int .i64 (k + 1 : Nat)) w6) := ⟨k + 1, rfl, by omega, hD6, hO6'⟩
            clear hD6 hO6' c0 c0' c06 t0 t1 t2 t0' t1' t2' t06 t16 t26 x0 x1 x0' x1' x06 x16 y0' y1' y0'' y1'' y06 y16
            go_wp2_with fail
            go_roundw
            case rel => first | exact HREL.out | ((repeat apply Exists.intro); exact ⟨HREL.out, rfl⟩)
            case measure => simp [intOf]; omega
          · obtain ⟨n, hn⟩ : ∃ n : Nat, d.length = n := ⟨_, rfl⟩
            have ct : Hid (∀ w, Calls Try.prog 22 #[.agg #[.int .i64 a, .slice ya d.length yc], .int .i64 A] w fun e w' => e = .returned (.int .i64 n) ∧ Below w.heap.size w w') := fun w => hn ▸ kept_is a ya d.length yc A w
            have HAM : Hid (am fs k d = n) := (show am fs k d = n by rw [← HAM.out, ← hn]; simp [amount])
            have hnl : n ≤ d.length := by omega
            clear hn
            have iy : (n : Int) ≤ (d.length : Int) := by omega
            have iy2 : (n : Int) ≤ (yc : Int) := by omega
            have iy0 : (0 : Int) ≤ (n : Int) := by omega
            go_wp2_with fail
            go_region_held3 (fun w' => w'.cell? ⟨p, 0, none⟩ = some (.slice db D.dur.length dc) ∧ (w'.cell? ⟨tb, 0, none⟩ = some (.func (.func 21) #[] #[]) ∧ w'.cell? ⟨tb, 1, none⟩ = some (.func (.func 22) #[] #[]) ∧ w'.cell? ⟨tb, 2, none⟩ = some (.func (.func 23) #[] #[])) ∧
                w'.cell? ⟨g1, 0, none⟩ = some (.int .i64 a) ∧ w'.cell? ⟨g1, 1, none⟩ = some (.slice ya d.length yc) ∧ w'.cell? ⟨g2, 0, none⟩ = some (.int .i64 1) ∧ w'.cell? ⟨g2, 1, none⟩ = some (.int .i64 A)) (go_keep)
              (first
                | (obtain ⟨w6, hrun, hn6, hO6, hs6⟩ := run_copy8 (HD4.out).dur a (ys := d.take n) (by rw [HLEN.out]; simp; omega) 3 db dc (dc - a) (by rw [HLEN.out]; exact HDV.out) _ (.inl rfl) ((HY8.out.below HB4.out).take n hnl)
                   rw [HLEN.out] at hrun
                   refine step_copy_by rfl (.tmp 53) (.tmp 64) 31 31 rfl _ _ rfl rfl hrun ?_
                   have e6 : ∀ b o, b < w4.heap.size → r b ≠ 2 → w6.cell? ⟨b, o, none⟩ = w4.cell? ⟨b, o, none⟩ := fun b o hb hr => World.cell?_of_block (w := w4) (hO6.block b hb (fun e => hr (HRD.out b e)))
                   have hs4 := HB4.out.size
                   have c06 := (e6 p 0 (by omega) (by rw [HRP.out]; decide)).trans c0'
                   have t06 := (e6 tb 0 (by omega) (by rw [HRT.out]; decide)).trans t0'
                   have t16 := (e6 tb 1 (by omega) (by rw [HRT.out]; decide)).trans t1'
                   have t26 := (e6 tb 2 (by omega) (by rw [HRT.out]; decide)).trans t2'
                   have x06 := (e6 g1 0 (by omega) HR1.out).trans x0'
                   have x16 := (e6 g1 1 (by omega) HR1.out).trans x1'
                   have y06 := (e6 g2 0 (by omega) HR2.out).trans y0''
                   have y16 := (e6 g2 1 (by omega) HR2.out).trans y1''
                   have HN6 := Lib.hid hn6
                   have HO6 := Lib.hid hO6
                   clear hrun hn6 hO6 hs6 e6)
                | (go_at_call 22; refine (ct.out _).mono ?_
                   rintro e w4 ⟨rfl, hB4⟩
                   have hB4' : Below wc.heap.size wc w4 := (Below.refl _ _).drew.trans hB4
                   have HB4 := Lib.hid hB4'
                   have HD4 := Lib.hid (HD3.out.below hB4')
                   have c0' := (hB4.cell (p := ⟨p, 0, none⟩) hpc).trans c0
                   have t0' := (hB4.cell (p := ⟨tb, 0, none⟩) htc).trans t0
                   have t1' := (hB4.cell (p := ⟨tb, 1, none⟩) htc).trans t1
                   have t2' := (hB4.cell (p := ⟨tb, 2, none⟩) htc).trans t2
                   have x0' := (hB4.cell (p := ⟨g1, 0, none⟩) hgc).trans x0
                   have x1' := (hB4.cell (p := ⟨g1, 1, none⟩) hgc).trans x1
                   have y0'' := (hB4.cell (p := ⟨g2, 0, none⟩) hhc).trans y0'
                   have y1'' := (hB4.cell (p := ⟨g2, 1, none⟩) hhc).trans y1'
                   clear hB4 hB4'))
            have hD6 := HD4.out.setDur HN6.out HO6.out
            dsimp only at hD6
            rw [cr_next HE.out HAM.out] at hD6
            have hO6' : Only (fun j => r j ≠ 0) w1 w6 := HO.out.trans ((Below.only HWC.out _).trans ((Below.only HB4.out _).trans (HO6.out.mono (fun j _ e => by rw [HRD.out j e]; decide))))
            have HREL : Hid (CRel w1 p r D dv nv uv xs fs (.int .i64 (k + 1 : Nat)) w6) := ⟨k + 1, rfl, by omega, hD6, hO6'⟩
            clear hD6 hO6' c0 c0' c06 t0 t1 t2 t0' t1' t2' t06 t16 t26 x0 x1 x0' x1' x06 x16 y0' y1' y0'' y1'' y06 y16
            go_wp2_with fail
            go_roundw
            case rel => first | exact HREL.out | ((repeat apply Exists.intro); exact ⟨HREL.out, rfl⟩)
            case measure => simp [intOf]; omega
          · obtain ⟨n, hn⟩ : ∃ n : Nat, (min A d.length).toNat = n := ⟨_, rfl⟩
            have ct : Hid (∀ w, Calls Try.prog 23 #[.agg #[.int .i64 a, .slice ya d.length yc], .int .i64 A] w fun e w' => e = .returned (.int .i64 n) ∧ Below w.heap.size w w') := fun w => hn ▸ torn_is a ya d.length yc A w
            have HAM : Hid (am fs k d = n) := (show am fs k d = n by rw [← HAM.out, ← hn]; simp [amount])
            have hnl : n ≤ d.length := by omega
            clear hn
            have iy : (n : Int) ≤ (d.length : Int) := by omega
            have iy2 : (n : Int) ≤ (yc : Int) := by omega
            have iy0 : (0 : Int) ≤ (n : Int) := by omega
            go_wp2_with fail
            go_region_held3 (fun w' => w'.cell? ⟨p, 0, none⟩ = some (.slice db D.dur.length dc) ∧ (w'.cell? ⟨tb, 0, none⟩ = some (.func (.func 21) #[] #[]) ∧ w'.cell? ⟨tb, 1, none⟩ = some (.func (.func 22) #[] #[]) ∧ w'.cell? ⟨tb, 2, none⟩ = some (.func (.func 23) #[] #[])) ∧
                w'.cell? ⟨g1, 0, none⟩ = some (.int .i64 a) ∧ w'.cell? ⟨g1, 1, none⟩ = some (.slice ya d.length yc) ∧ w'.cell? ⟨g2, 0, none⟩ = some (.int .i64 2) ∧ w'.cell? ⟨g2, 1, none⟩ = some (.int .i64 A)) (go_keep)
              (first
                | (obtain ⟨w6, hrun, hn6, hO6, hs6⟩ := run_copy8 (HD4.out).dur a (ys := d.take n) (by rw [HLEN.out]; simp; omega) 3 db dc (dc - a) (by rw [HLEN.out]; exact HDV.out) _ (.inl rfl) ((HY8.out.below HB4.out).take n hnl)
                   rw [HLEN.out] at hrun
                   refine step_copy_by rfl (.tmp 53) (.tmp 64) 31 31 rfl _ _ rfl rfl hrun ?_
                   have e6 : ∀ b o, b < w4.heap.size → r b ≠ 2 → w6.cell? ⟨b, o, none⟩ = w4.cell? ⟨b, o, none⟩ := fun b o hb hr => World.cell?_of_block (w := w4) (hO6.block b hb (fun e => hr (HRD.out b e)))
                   have hs4 := HB4.out.size
                   have c06 := (e6 p 0 (by omega) (by rw [HRP.out]; decide)).trans c0'
                   have t06 := (e6 tb 0 (by omega) (by rw [HRT.out]; decide)).trans t0'
                   have t16 := (e6 tb 1 (by omega) (by rw [HRT.out]; decide)).trans t1'
                   have t26 := (e6 tb 2 (by omega) (by rw [HRT.out]; decide)).trans t2'
                   have x06 := (e6 g1 0 (by omega) HR1.out).trans x0'
                   have x16 := (e6 g1 1 (by omega) HR1.out).trans x1'
                   have y06 := (e6 g2 0 (by omega) HR2.out).trans y0''
                   have y16 := (e6 g2 1 (by omega) HR2.out).trans y1''
                   have HN6 := Lib.hid hn6
                   have HO6 := Lib.hid hO6
                   clear hrun hn6 hO6 hs6 e6)
                | (go_at_call 23; refine (ct.out _).mono ?_
                   rintro e w4 ⟨rfl, hB4⟩
                   have hB4' : Below wc.heap.size wc w4 := (Below.refl _ _).drew.trans hB4
                   have HB4 := Lib.hid hB4'
                   have HD4 := Lib.hid (HD3.out.below hB4')
                   have c0' := (hB4.cell (p := ⟨p, 0, none⟩) hpc).trans c0
                   have t0' := (hB4.cell (p := ⟨tb, 0, none⟩) htc).trans t0
                   have t1' := (hB4.cell (p := ⟨tb, 1, none⟩) htc).trans t1
                   have t2' := (hB4.cell (p := ⟨tb, 2, none⟩) htc).trans t2
                   have x0' := (hB4.cell (p := ⟨g1, 0, none⟩) hgc).trans x0
                   have x1' := (hB4.cell (p := ⟨g1, 1, none⟩) hgc).trans x1
                   have y0'' := (hB4.cell (p := ⟨g2, 0, none⟩) hhc).trans y0'
                   have y1'' := (hB4.cell (p := ⟨g2, 1, none⟩) hhc).trans y1'
                   clear hB4 hB4'))
            have hD6 := HD4.out.setDur HN6.out HO6.out
            dsimp only at hD6
            rw [cr_next HE.out HAM.out] at hD6
            have hO6' : Only (fun j => r j ≠ 0) w1 w6 := HO.out.trans ((Below.only HWC.out _).trans ((Below.only HB4.out _).trans (HO6.out.mono (fun j _ e => by rw [HRD.out j e]; decide))))
            have HREL : Hid (CRel w1 p r D dv nv uv xs fs (.int .i64 (k + 1 : Nat)) w6) := ⟨k + 1, rfl, by omega, hD6, hO6'⟩
            clear hD6 hO6' c0 c0' c06 t0 t1 t2 t0' t1' t2' t06 t16 t26 x0 x1 x0' x1' x06 x16 y0' y1' y0'' y1'' y06 y16
            go_wp2_with fail
            go_roundw
            case rel => first | exact HREL.out | ((repeat apply Exists.intro); exact ⟨HREL.out, rfl⟩)
            case measure => simp [intOf]; omega
    · have hkn : k = D.uns.length := by omega
      rw [hkn, List.take_of_length_le (Nat.le_refl _)] at hD
      have hlen : (cr (am fs) D.dur D.uns 0).length = D.dur.length := cr_len _ _ _ _ HL.out
      have c0 := hD.c0
      have c1 := hD.c1
      have c2 := hD.c2
      rw [HUV.out] at c2
      have HD := Lib.hid hD
      have HO := Lib.hid hO
      have HOW := Lib.hid hOw
      have HLEN := Lib.hid hlen
      clear hD hO hOw hkn hlen
      go_wp2_with fail
      refine region_tail 8 (by kernel_rfl) (by kernel_rfl) ?_
      simp only [List.take_succ_cons, List.take_zero, List.drop_succ_cons, List.drop_zero]
      repeat still_step
      refine wpStill_nil ?_
      clear c0 c1 c2
      have h2 := HD.out.keep (Only.refl (fun _ => False) wr).drew (fun _ _ h => h)
      obtain ⟨w2, hr, hO2, hOn, hsz⟩ := copy_all h2.now h2.dur (by rw [HLEN.out]; exact HS.out) 3
      refine wpList_copy_by _ rfl (.tmp 75) (.tmp 79) 31 31 rfl _ _ rfl rfl hr ?_
      have hD6 := h2.setNow hO2 hOn
      have k2 : w2.cell? ⟨p, 2, none⟩ = some uv := hD6.c2
      have f2 : w2.frozen? ⟨p, 2, none⟩ = false := free_of_block hD6.blk 2
      have HD6 := Lib.hid hD6
      have HON := Lib.hid hOn
      clear h2 hr hO2 hOn hsz hD6
      go_wp2_with fail
      go_ret
      obtain ⟨hF, hFO⟩ := HD6.out.setNil
      refine ⟨rfl, hF, HOW.out.trans ((Only.refl _ _).drew.trans ((HON.out.mono (fun j _ e => ?_)).trans (hFO.mono (fun j _ e => ?_))))⟩
      · rw [HU.out.rn j e]; decide
      · rw [e, HU.out.rp]; decide
end Go.Proofs.Ytbgjahgmkbbgjaa

/- The document's Release: walked. -/
import Derived.Test.YthipfcmjpgbemaaGo
namespace Go.Proofs.Ythipfcmjpgbemaa
open Go.RowKit

/-- What went out, as the document has it. -/
def roCells : List OutR → List Value
  | [] => []
  | o :: L => .int .u64 o.at' :: .int .i64 (o.cls : Nat) :: .int .u64 o.x.no :: .int .i64 o.x.size :: .string (str8 o.x.data) :: roCells L
theorem roCells_len : ∀ (L : List OutR), (roCells L).length = L.length * 5
  | [] => rfl
  | o :: L => by simp [roCells, roCells_len L]; omega
theorem roCells_snoc : ∀ (L : List OutR) (o : OutR), roCells L ++ [.int .u64 o.at', .int .i64 (o.cls : Nat), .int .u64 o.x.no, .int .i64 o.x.size, .string (str8 o.x.data)] = roCells (L ++ [o])
  | [], o => rfl
  | x :: L, o => by simp [roCells, ← roCells_snoc L o]
theorem info_ro : (Try.prog.info? 142).map (fun i => (i.zero, i.size, i.bytes)) = some (some (.agg #[.int .u64 0, .int .i64 0, .int .u64 0, .int .i64 0, .string ⟨#[]⟩]), 5, 48) := by kernel_rfl

def RvRel (W : World) (n m B p : Nat) (bv qv sv : Value) (qs : List Value) (S0 : Sh) (iv : Value) (w : World) : Prop :=
  ∃ (S1 : Sh) (outs : List OutR) (qs1 : List Value) (a : Option Addr) (c : Nat), iv = .slice a outs.length c ∧ IsR w B p bv qv sv qs1 S1 ∧ RChg W w p bv qv sv qs qs1 ∧ w.ownsRow W.heap.size 142 5 iv outs.length (roCells outs) ∧ S1.Ok n ∧ (∀ L ∈ S1.ls, QOk L.Q) ∧
    relN (total S1.ls + 1) m S1 outs = relN (total S0.ls + 1) m S0 [] ∧ total S1.ls + outs.length = total S0.ls
def RvOk (W : World) (B p : Nat) (bv qv sv : Value) (qs : List Value) (R : Sh × List OutR) (e : Ending) (w : World) : Prop :=
  ∃ vo qs', e = .returned vo ∧ w.ownsRow W.heap.size 142 5 vo R.2.length (roCells R.2) ∧ IsR w B p bv qv sv qs' R.1 ∧ RChg W w p bv qv sv qs qs'

theorem qok_step {S S' : Sh} {t : Nat} {o : OutR} (h : ∀ L ∈ S.ls, QOk L.Q) (hs : S.step t = some (S', o)) : ∀ L ∈ S'.ls, QOk L.Q := by
  obtain ⟨L, l, -, -, -, -, hL, hq, rfl, -⟩ := step_some hs
  intro M hM
  rcases List.mem_or_eq_of_mem_set hM with h1 | rfl
  · exact h M h1
  · have hk := h L (List.mem_of_getElem? hL)
    have e1 := hk.len
    have e2 := hk.sum
    rw [hq] at e1 e2
    simp [sumQ] at e1 e2
    refine ⟨by show l.length ≤ _; omega, hk.its, ?_, hk.bnd⟩
    show sumQ l ≤ L.Q.bound
    unfold sumQ
    omega

theorem RP.put4 {w : World} {B p tick c g n cap : Nat} {bv qv sv : Value} {rb rq rs : List (List Value)} {r : List Value} (h : RP w B p tick bv qv sv rb rq rs) (hc : rb[c]? = some r) (hr : r.length = 4) (hv : bv = .slice (some ⟨g, 0, none⟩) n cap) (x0 x1 x2 x3 : Value) :
    RP ((((w.setCell ⟨g, c * 4, none⟩ x0).setCell ⟨g, c * 4 + 1, none⟩ x1).setCell ⟨g, c * 4 + 2, none⟩ x2).setCell ⟨g, c * 4 + 3, none⟩ x3) B p tick bv qv sv (rb.set c [x0, x1, x2, x3]) rq rs ∧ Only (fun k => bv.ownBlock = some k) w ((((w.setCell ⟨g, c * 4, none⟩ x0).setCell ⟨g, c * 4 + 1, none⟩ x1).setCell ⟨g, c * 4 + 2, none⟩ x2).setCell ⟨g, c * 4 + 3, none⟩ x3) := by
  have hcl := (List.getElem?_eq_some_iff.1 hc).1
  obtain ⟨h0, k0⟩ := h.inB0 (u := x0) hc hv (j := 0) (by decide)
  obtain ⟨h1, k1⟩ := h0.inB0 (u := x1) (List.getElem?_set_self hcl) hv (j := 1) (by decide)
  rw [List.set_set] at h1
  obtain ⟨h2, k2⟩ := h1.inB0 (u := x2) (List.getElem?_set_self hcl) hv (j := 2) (by decide)
  rw [List.set_set] at h2
  obtain ⟨h3, k3⟩ := h2.inB0 (u := x3) (List.getElem?_set_self hcl) hv (j := 3) (by decide)
  rw [List.set_set] at h3
  match r, hr with
  | [a, b, d, e], _ => exact ⟨h3, ((k0.trans k1).trans k2).trans k3⟩
theorem five_new (w : World) (n : Nat) (hn : w.heap.size = n) (a b c d f : Value) (e : TypeId) : ∀ j u, [a, b, c, d, f][j]? = some u → (w.alloc (.cells #[a, b, c, d, f] e)).cell? ((⟨n, 0, none⟩ : Addr).add j) = some u := by
  subst hn
  intro j u h
  have hj : j < 5 := (List.getElem?_eq_some_iff.1 h).1
  rw [Addr.add_lit, Nat.zero_add]
  refine (cell_of_block (alloc_block_new w _) j).trans ?_
  rcases (show j = 0 ∨ j = 1 ∨ j = 2 ∨ j = 3 ∨ j = 4 by omega) with rfl | rfl | rfl | rfl | rfl <;> simpa using h
/-- Behind the document's Take. -/
def TkRel (w7 : World) (gb j : Nat) (B' : Bk) (_ : Value) (w : World) : Prop :=
  ∃ w8, Below w7.heap.size w7 w8 ∧ w = (((w8.setCell ⟨gb, j, none⟩ (.int .u64 B'.rate)).setCell ⟨gb, j + 1, none⟩ (.int .u64 B'.burst)).setCell ⟨gb, j + 2, none⟩ (.int .u64 B'.tick)).setCell ⟨gb, j + 3, none⟩ (.int .u64 B'.tok)
theorem rpop_hd {w : World} {B : Nat} {v : Value} {Q : QS} {x : It} {l : List It} (h : RL w B v Q.L) (hq : Q.L = x :: l) :
    Calls Try.prog 60 #[.agg #[v, .int .i64 Q.items, .int .i64 Q.bound, .int .u64 Q.drops]] w fun e w' =>
      ∃ a k, e = .returned (.tuple #[.agg #[.slice a l.length k, .int .i64 Q.items, .int .i64 Q.bound, .int .u64 Q.drops], .agg #[.int .u64 x.no, .int .i64 x.size, .string (str8 x.data)], .bool true]) ∧
        RL w' B (.slice a l.length k) l ∧ Below w.heap.size w w' ∧ ∀ j, (Value.slice a l.length k).ownBlock = some j → v.ownBlock = some j := by
  have h1 := rpop_all (Q := Q) h
  unfold RPopA popA rq at h1
  rw [hq] at h1
  exact h1

theorem rv_next {w wr w12 wA w13 : World} {n m B p : Nat} {bv qv sv iv : Value} {qs qs1 qs2 : List Value} {S S1 S2 : Sh} {outs : List OutR} {o : OutR} (hG : RChg w wr p bv qv sv qs qs1) (hrow : wr.ownsRow w.heap.size 142 5 iv outs.length (roCells outs)) (hS1 : S1.Ok n) (hQ1 : ∀ L ∈ S1.ls, QOk L.Q)
    (hN : relN (total S1.ls + 1) m S1 outs = relN (total S.ls + 1) m S []) (hT : total S1.ls + outs.length = total S.ls) (hst : S1.step m = some (S2, o)) (hI : IsR w12 B p bv qv sv qs2 S2) (hC : RChg wr w12 p bv qv sv qs1 qs2) (hrd : ∀ k, RD p bv qv sv k → k < w.heap.size) (hws : w.heap.size ≤ wr.heap.size) (hws2 : wr.heap.size ≤ w12.heap.size)
    (hA : Below w12.heap.size w12 wA) {a13 : Option Addr} {c13 : Nat} (hown : w13.ownsRow 0 142 5 (.slice a13 (outs.length + 1) c13) (outs.length + 1) (roCells outs ++ [.int .u64 o.at', .int .i64 (o.cls : Nat), .int .u64 o.x.no, .int .i64 o.x.size, .string (str8 o.x.data)])) (hg : wA.grownBy w13 iv.ownBlock) (hb : (Value.slice a13 (outs.length + 1) c13).ownBlock = iv.ownBlock ∨ (Value.slice a13 (outs.length + 1) c13).ownBlock = some wA.heap.size) :
    RvRel w n m B p bv qv sv qs S (.slice a13 (outs.length + 1) c13) w13 := by
  have hO : Only (fun k => iv.ownBlock = some k) wA w13 := (Only.refl _ _).grown hg (fun k hk _ => hk)
  have hs := hA.size
  have hIA := hI.below hA
  have hdj : ∀ k, iv.ownBlock = some k → w.heap.size ≤ k ∧ k < wr.heap.size := fun k hk => ⟨own_ge hrow k hk, own_lt hrow k hk⟩
  have hqn : ∀ y ∈ qs2, ∀ k, y.ownBlock = some k → ¬ iv.ownBlock = some k := fun y hy k hk e => by
    obtain ⟨c, hc⟩ := List.mem_iff_getElem?.1 hy
    have hcl := (List.getElem?_eq_some_iff.1 hc).1
    obtain ⟨L, hL⟩ : ∃ L, S2.ls[c]? = some L := ⟨_, List.getElem?_eq_getElem (by rw [← hI.ql]; exact hcl)⟩
    obtain ⟨c1, h1⟩ := (hI.rl c L y hL hc).tyR hk
    obtain ⟨c2, h2⟩ := row_type hrow k e
    have h3 := hC.only.keep h2 (fun h => by have := hrd k h; have := (hdj k e).1; omega)
    exact absurd (ty_apart h1 h3) (by decide)
  have hI13 := hIA.keep hO (fun k hk e => by have := hrd k hk; have := (hdj k e).1; omega) hqn
  have hst2 := step_some hst
  obtain ⟨L, l, -, -, -, -, -, -, -, htt⟩ := hst2
  have hlen : (outs ++ [o]).length = outs.length + 1 := by simp
  refine ⟨S2, outs ++ [o], qs2, a13, c13, by rw [hlen], hI13, ⟨(hG.trans hC).only.after ((Below.only hA _).trans hO) (fun j hj _ e => by have := (hdj j e).1; omega), (hG.trans hC).new⟩, ?_, step_ok hS1 hst, qok_step hQ1 hst, ?_, by rw [hlen]; omega⟩
  · rw [hlen, ← roCells_snoc]
    refine own_raise hown (fun k hk => ?_)
    rcases hb with e | e
    · rw [e] at hk
      exact (hdj k hk).1
    · rw [e] at hk
      injection hk with hk
      omega
  · rw [← hN]
    conv => rhs; unfold relN
    rw [hst]
    show _ = relN (total S1.ls) m S2 (outs ++ [o])
    rw [← htt]

set_option maxRecDepth 100000 in
set_option maxHeartbeats 2000000 in
theorem rRelease_is {w : World} {B p n t : Nat} {bv qv sv : Value} {qs : List Value} {S : Sh} (h : IsR w B p bv qv sv qs S) (hS : S.Ok n) (hQ : ∀ L ∈ S.ls, QOk L.Q) (hBw : B ≤ w.heap.size) (ht : t < 18446744073709551616) :
    Calls Try.prog 42 #[ptr p, .int .u64 t] w (RvOk w B p bv qv sv qs (S.rel t)) := by
  unfold Sh.rel
  have c0 := h.rp.c0
  have htk := hS.tick
  obtain ⟨qa, qc, rfl⟩ := h.rqa
  have hrd : ∀ k, RD p bv (.slice qa S.ls.length qc) sv k → k < w.heap.size := fun k hk => (h.rp.lt hk).2
  have H := Lib.hid (And.intro h (And.intro hS (And.intro hQ hrd)))
  clear h hS hQ hrd
  obtain ⟨m, hm⟩ : ∃ m, max t S.tick = m := ⟨_, rfl⟩
  have hml : m < 18446744073709551616 := by omega
  have hm2 : m = if t < S.tick then S.tick else t := by split <;> omega
  rw [hm]
  clear hm
  unfold ptr
  go_enter Try.func42, Try.ntmps42
  go_upto_region 2 with (fail)
  go_cut [1] (fun v w' => v = .int .u64 m ∧ w' = w)
  case first =>
    by_cases hts : t < S.tick
    · rw [if_pos hts] at hm2
      have htsi : (t : Int) < (S.tick : Int) := by omega
      go_wp2_with fail
      go_meet
      case rel => exact ⟨by rw [hm2], rfl⟩
    · rw [if_neg hts] at hm2
      have htsi : ¬ (t : Int) < (S.tick : Int) := by omega
      go_wp2_with fail
      go_meet
      case rel => exact ⟨by rw [hm2], rfl⟩
  case rest =>
    obtain ⟨rfl, rfl⟩ := hcut
    obtain ⟨w, rfl⟩ : ∃ wo : World, wo = wc := ⟨_, rfl⟩
    go_wp2_with fail
    clear c0 htk hm2
    go_loopw [5] (RvRel w n m B p bv (.slice qa S.ls.length qc) sv qs S) (fun a _ => total S.ls + 1 - sliceLen a)
    case atStart => exact ⟨S, [], qs, none, 0, rfl, H.out.1, RChg.below (Below.refl _ _), ⟨rfl, .inl ⟨rfl, rfl⟩⟩, H.out.2.1, H.out.2.2.1, rfl, rfl⟩
    case round =>
      obtain ⟨S1, outs, qs1, a, c, rfl, hI, hG, hrow, hS1, hQ1, hN, hT⟩ := hrel
      have HN := Lib.hid (rnext_is hI hS1)
      have HR := Lib.hid (And.intro hI (And.intro hG (And.intro hrow (And.intro hS1 (And.intro hQ1 (And.intro hN hT))))))
      clear hI hG hrow hS1 hQ1 hN hT
      unfold ptr at HN
      cases hst : S1.step m with
      | none =>
        have hc := step_none hst
        have HS := Lib.hid hst
        clear hst
        have hfin : Hid (relN (total S.ls + 1) m S [] = (⟨m, S1.ls⟩, outs)) := by
          show _ = _
          rw [← HR.out.2.2.2.2.2.1]
          unfold relN
          rw [HS.out]
        cases hok : S1.next.ok with
        | false =>
          have hwh : S1.next.which = -1 := by unfold Fnd.which; rw [hok]; rfl
          rw [hwh] at HN
          go_wp2_with fail
          refine HN.out.mono ?_
          rintro e w2 ⟨rfl, hB2⟩
          have h2 := HR.out.1.below hB2
          have k0 := h2.rp.c0
          have f0 := free_of_block h2.rp.blk 0
          obtain ⟨h3, hO3⟩ := h2.rp.inT m
          have HE : Hid (IsR (w2.setCell ⟨p, 0, none⟩ (.int .u64 m)) B p bv (.slice qa S.ls.length qc) sv qs1 ⟨m, S1.ls⟩) := Lib.hid ⟨h3, h2.ql, fun c L y hL hy => (h2.rl c L y hL hy).keep hO3 (fun k hk e => (h2.rl c L y hL hy).ne h2.rp hk (.inl e))⟩
          have HRW := Lib.hid (own_only (own_only HR.out.2.2.1 (Below.only hB2 (fun _ => False)) (fun _ _ h => h)) hO3 (fun k hk e => by
            have h1 := own_ge HR.out.2.2.1 k hk
            have h2 := H.out.2.2.2 p (.inl rfl)
            omega))
          have HC := Lib.hid (HR.out.2.1.trans ((RChg.below hB2).trans ⟨hO3.mono fun k _ e => .inl e, fun y hy k hk => .inl ⟨y, hy, hk⟩⟩))
          clear h2 hB2 h3 hO3
          go_wp2_with fail
          go_ret
          rw [hfin.out]
          exact ⟨_, qs1, rfl, HRW.out, HE.out, HC.out⟩
        | true =>
          have hlt : m < S1.next.at' := by
            rcases hc with h | h
            · rw [hok] at h; cases h
            · exact h
          obtain ⟨d, M, hd, -⟩ := S1.found.yes hok
          have hwh : S1.next.which = (d : Nat) := by unfold Fnd.which; rw [hok]; exact hd
          rw [hwh] at HN
          clear hd hwh hc
          generalize S1.next.at' = at1 at *
          have hlti : (m : Int) < (at1 : Int) := by omega
          have hltd : decide (m < at1) = true := decide_eq_true hlt
          have hd0 : ¬ (d : Int) < 0 := by omega
          go_wp2_with fail
          refine HN.out.mono ?_
          rintro e w2 ⟨rfl, hB2⟩
          have h2 := HR.out.1.below hB2
          have k0 := h2.rp.c0
          have f0 := free_of_block h2.rp.blk 0
          obtain ⟨h3, hO3⟩ := h2.rp.inT m
          have HE : Hid (IsR (w2.setCell ⟨p, 0, none⟩ (.int .u64 m)) B p bv (.slice qa S.ls.length qc) sv qs1 ⟨m, S1.ls⟩) := Lib.hid ⟨h3, h2.ql, fun c L y hL hy => (h2.rl c L y hL hy).keep hO3 (fun k hk e => (h2.rl c L y hL hy).ne h2.rp hk (.inl e))⟩
          have HRW := Lib.hid (own_only (own_only HR.out.2.2.1 (Below.only hB2 (fun _ => False)) (fun _ _ h => h)) hO3 (fun k hk e => by
            have h1 := own_ge HR.out.2.2.1 k hk
            have h2 := H.out.2.2.2 p (.inl rfl)
            omega))
          have HC := Lib.hid (HR.out.2.1.trans ((RChg.below hB2).trans ⟨hO3.mono fun k _ e => .inl e, fun y hy k hk => .inl ⟨y, hy, hk⟩⟩))
          clear h2 hB2 h3 hO3
          go_wp2_with fail
          go_ret
          rw [hfin.out]
          exact ⟨_, qs1, rfl, HRW.out, HE.out, HC.out⟩
      | some r =>
        obtain ⟨S2, o⟩ := r
        have HST := Lib.hid hst
        obtain ⟨L, l, hok, hcl, hat, hle, hL, hql, hS2, htt⟩ := step_some hst
        have hwh : S1.next.which = (o.cls : Nat) := by unfold Fnd.which; rw [if_pos hok, hcl]
        rw [hwh, hat] at HN
        have hti : ¬ (m : Int) < (o.at' : Int) := by omega
        have htd : decide (m < o.at') = false := decide_eq_false hle
        have hc0 : ¬ (o.cls : Int) < 0 := by omega
        have HL := Lib.hid (And.intro hL (And.intro hql (And.intro hS2 htt)))
        clear hst hok hcl hat hL hql hS2 htt hwh
        go_wp2_with fail
        refine HN.out.mono ?_
        rintro e w2 ⟨rfl, hB2⟩
        clear HN
        have h2 := HR.out.1.below hB2
        have k0 := h2.rp.c0
        have k2 := h2.rp.c2
        have f0 := free_of_block h2.rp.blk 0
        obtain ⟨y, hy, hrl⟩ := h2.q HL.out.1
        obtain ⟨gb, gq, gs, cb, cq, cs, eb, eq, es, hb, hq, hs, hbl, hql, hsl⟩ := h2.cells HL.out.1 hy
        obtain ⟨ya, yc, ey⟩ := hrl.shape
        subst ey
        rw [HL.out.2.1] at hrl
        have q0 := hq 0 (by decide)
        have q1 := hq 1 (by decide)
        have q2 := hq 2 (by decide)
        have q3 := hq 3 (by decide)
        simp only [Nat.add_zero] at q0
        replace q0 : w2.cell? ⟨gq, o.cls * 4, none⟩ = some (.slice ya L.Q.L.length yc) := q0
        replace q1 : w2.cell? ⟨gq, o.cls * 4 + 1, none⟩ = some (.int .i64 L.Q.items) := q1
        replace q2 : w2.cell? ⟨gq, o.cls * 4 + 2, none⟩ = some (.int .i64 L.Q.bound) := q2
        replace q3 : w2.cell? ⟨gq, o.cls * 4 + 3, none⟩ = some (.int .u64 L.Q.drops) := q3
        have hpl := lt_of_obj h2.rp.blk
        have hne := (h2.rp.ne.2.1 gq (by rw [eq]; rfl)).1
        have hlen : S1.ls.length = S.ls.length := by injection eq with e1 e2 e3; exact e2.symm
        rw [hlen] at eb eq es
        injection eq with e1 e2 e3
        subst e1 e3 eb es
        clear e2
        have hcn : (o.cls : Int) < (S.ls.length : Int) := by have := (List.getElem?_eq_some_iff.1 HL.out.1).1; omega
        obtain ⟨hP3, hO3⟩ := h2.rp.inT o.at'
        have hRL : ∀ (d : Nat) (M : Ln) (z : Value), S1.ls[d]? = some M → qs1[d]? = some z → RL (w2.setCell ⟨p, 0, none⟩ (.int .u64 o.at')) B z M.Q.L := fun d M z hM hz => (h2.rl d M z hM hz).keep hO3 (fun k hk e => (h2.rl d M z hM hz).ne h2.rp hk (.inl e))
        have HY := Lib.hid hy
        have HP := Lib.hid (rpop_hd (Q := L.Q) (hRL _ L _ HL.out.1 hy) HL.out.2.1)
        have HX := Lib.hid (And.intro hP3 (And.intro hRL (And.intro hO3 hB2)))
        have HS1 := Lib.hid (HR.out.2.2.2.1.ln L (List.mem_of_getElem? HL.out.1))
        have hz2 := HS1.out.size o.x (by rw [HL.out.2.1]; exact List.mem_cons_self ..)
        clear h2 hB2 hP3 hRL hO3 hy hrl hb hq hs
        go_wp2_with fail
        generalize w2.setCell ⟨p, 0, none⟩ (.int .u64 o.at') = w3 at *
        refine HP.out.mono ?_
        rintro e w4 ⟨a4, k4, rfl, hR4, hB4, hj4⟩
        clear HP
        have hP4 := HX.out.1.below hB4
        have hRL4 := fun d M z hM hz => (HX.out.2.1 d M z hM hz).below hB4
        have HX4 := Lib.hid (And.intro hP4 (And.intro hRL4 (And.intro hR4 hj4)))
        have HB4 := Lib.hid hB4
        clear hP4 hRL4 hR4 hB4 hj4 q0 q1 q2 q3 k0 k2 f0
        go_wp2_with fail
        have hA5 : Below w4.heap.size w4 ((w4.alloc (.cells #[.slice a4 l.length k4, .int .i64 L.Q.items, .int .i64 L.Q.bound, .int .u64 L.Q.drops] 104)).alloc (.cells #[.int .u64 o.x.no, .int .i64 o.x.size, .string (str8 o.x.data)] 42)) := ((Below.refl _ _).alloc (Nat.le_refl _) _).alloc (by simp) _
        have z8 : ((w4.alloc (.cells #[.slice a4 l.length k4, .int .i64 L.Q.items, .int .i64 L.Q.bound, .int .u64 L.Q.drops] 104)).alloc (.cells #[.int .u64 o.x.no, .int .i64 o.x.size, .string (str8 o.x.data)] 42)).heap[w4.heap.size]? = _ := (alloc_block_old _ (by simp)).trans (alloc_block_new w4 _)
        have z9 : ((w4.alloc (.cells #[.slice a4 l.length k4, .int .i64 L.Q.items, .int .i64 L.Q.bound, .int .u64 L.Q.drops] 104)).alloc (.cells #[.int .u64 o.x.no, .int .i64 o.x.size, .string (str8 o.x.data)] 42)).heap[w4.heap.size + 1]? = _ := alloc_block_at _ _ (by simp)
        have h89 : w4.heap.size < w4.heap.size + 1 := Nat.lt_succ_self _
        generalize (w4.alloc (.cells #[.slice a4 l.length k4, .int .i64 L.Q.items, .int .i64 L.Q.bound, .int .u64 L.Q.drops] 104)).alloc (.cells #[.int .u64 o.x.no, .int .i64 o.x.size, .string (str8 o.x.data)] 42) = w5 at *
        generalize hg9 : w4.heap.size + 1 = g9 at *
        generalize hg8 : w4.heap.size = g8 at *
        refine region_tail 7 (by kernel_rfl) (by kernel_rfl) ?_
        simp only [List.take_succ_cons, List.take_zero, List.drop_succ_cons, List.drop_zero]
        have hD : Below g8 w4 w5.drew := hA5.drew
        rw [← hg8] at hD
        have y8 : w5.drew.heap[g8]? = _ := z8
        have y9 : w5.drew.heap[g9]? = _ := z9
        clear z8 z9 hA5
        generalize w5.drew = w6 at *
        have hP6 := HX4.out.1.below hD
        have hRL6 := fun d M z hM hz => (HX4.out.2.1 d M z hM hz).below hD
        have hR6 := HX4.out.2.2.1.below hD
        have x0 := cell_of_block y8 0
        have x1 := cell_of_block y8 1
        have x2 := cell_of_block y8 2
        have x3 := cell_of_block y8 3
        dsimp at x0 x1 x2 x3
        have k2 := hP6.c2
        obtain ⟨gq', cq', cur, eqv, -, hblk, hnc, -, hcs, -, -⟩ := hP6.q.at (zip_at HY.out HL.out.1)
        have HEV := Lib.hid eqv
        injection eqv with e1 e2 e3
        injection e1 with e1
        injection e1 with e1
        subst e1
        have HF : Hid (o.cls * 4 + 4 ≤ cur.size) := by
          have h1 := (List.getElem?_eq_some_iff.1 (zip_at HY.out HL.out.1)).1
          show _ ≤ _
          omega
        have HX6 := Lib.hid (And.intro hP6 (And.intro hRL6 (And.intro hR6 (And.intro hD (And.intro hblk (And.intro y8 y9))))))
        clear hP6 hRL6 hR6 hD hblk hnc hcs e2 e3 y8 y9
        repeat still_step
        refine wpStill_nil ?_
        refine wpList_store_at rfl 104 (.tmp 56) (.tmp 55) rfl gq (o.cls * 4) (.agg #[.slice a4 l.length k4, .int .i64 L.Q.items, .int .i64 L.Q.bound, .int .u64 L.Q.drops]) rfl rfl 104 cur HX6.out.2.2.2.2.1 [.slice a4 l.length k4, .int .i64 L.Q.items, .int .i64 L.Q.bound, .int .u64 L.Q.drops] rfl (by kernel_rfl) HF.out (by intro u hu; simp at hu; rcases hu with rfl | rfl | rfl | rfl <;> rfl) ?_
        simp only [Act.put]
        intro w7 hS7
        have hr7 := HX6.out.1.q.stored (zip_at HY.out HL.out.1) HEV.out HX6.out.2.2.2.2.1 (r' := [.slice a4 l.length k4, .int .i64 L.Q.items, .int .i64 L.Q.bound, .int .u64 L.Q.drops]) rfl hS7
        have hO7 : Only (fun k => (Value.slice (some ⟨gq, 0, none⟩) S.ls.length qc).ownBlock = some k) w6 w7 := hS7.only.mono (fun k _ e => by subst e; rfl)
        have hP7 := HX6.out.1.inQ hO7 hr7
        have hbr : (S1.ls.map bRow)[o.cls]? = some (bRow L) := by rw [List.getElem?_map, HL.out.1]; rfl
        obtain ⟨gb', cb', ub, eqb, -, -, -, -, -, -, hb7⟩ := hP7.b.at hbr
        have hfb := hP7.b.fr (by have := (List.getElem?_eq_some_iff.1 hbr).1; omega) rfl
        injection eqb with e1 e2 e3
        injection e1 with e1
        injection e1 with e1
        subst e1
        have b0 := hb7 0 (by decide)
        have b1 := hb7 1 (by decide)
        have b2 := hb7 2 (by decide)
        have b3 := hb7 3 (by decide)
        simp only [Nat.add_zero] at b0
        replace b0 : w7.cell? ⟨gb, o.cls * 4, none⟩ = some (.int .u64 L.B.rate) := b0
        replace b1 : w7.cell? ⟨gb, o.cls * 4 + 1, none⟩ = some (.int .u64 L.B.burst) := b1
        replace b2 : w7.cell? ⟨gb, o.cls * 4 + 2, none⟩ = some (.int .u64 L.B.tick) := b2
        replace b3 : w7.cell? ⟨gb, o.cls * 4 + 3, none⟩ = some (.int .u64 L.B.tok) := b3
        have k1 := hP7.c1
        have g98 : ¬ g9 = gq := fun e => by
          subst e
          exact absurd (ty_apart HX6.out.2.2.2.2.2.2 HX6.out.2.2.2.2.1) (by decide)
        have y9 := hS7.only.keep HX6.out.2.2.2.2.2.2 g98
        have x1' : w7.cell? ⟨g9, 1, none⟩ = some (.int .i64 o.x.size) := cell_of_block y9 1
        have hw9 : IntKind.u64.wrap (o.x.size : Int) = (o.x.size : Int) := IntWalk.u64_in _ (by omega)
        have h9b : ¬ g9 = gb := fun e => by
          obtain ⟨cc, hcc⟩ := hP7.b.typ (k := gb) rfl
          subst e
          exact absurd (ty_apart y9 hcc) (by decide)
        have HX7 := Lib.hid (And.intro hP7 (And.intro hO7 y9))
        clear hr7 hP7 hO7 hS7 hbr hb7 x0 x1 x2 x3 k2 e2 e3 g98 y9 HF HEV
        have hpl7 := lt_of_obj HX7.out.1.blk
        have hg97 := lt_of_obj HX7.out.2.2
        have hbl7 : gb < w7.heap.size := (HX7.out.1.lt (k := gb) (.inr (.inl rfl))).2
        have HTK : Hid (∀ w', Calls Try.prog 61 #[.agg #[.int .u64 L.B.rate, .int .u64 L.B.burst, .int .u64 L.B.tick, .int .u64 L.B.tok], .int .u64 o.at', .int .u64 o.x.size] w' fun e w'' => e = .returned (.tuple #[.agg #[.int .u64 (L.B.take o.at' o.x.size).rate, .int .u64 (L.B.take o.at' o.x.size).burst, .int .u64 (L.B.take o.at' o.x.size).tick, .int .u64 (L.B.take o.at' o.x.size).tok], .bool (L.B.can o.at' o.x.size)]) ∧ Only (fun _ => False) w' w'') :=
          Lib.hid fun w' => rtake_any L.B o.at' o.x.size HS1.out.B (by omega) w'
        have HB' := Lib.hid (show (outL L o.at' o.x l).B = L.B.take o.at' o.x.size from rfl)
        generalize L.B.take o.at' o.x.size = B' at *
        generalize L.B.can o.at' o.x.size = cB at *
        have hlm : 0 < (S1.ls.map bRow).length := by rw [List.length_map]; omega
        go_upto_region 10 with (fail)
        have hnb1 := (HX7.out.1.ne.1 gb rfl).1
        have hnb2 : ¬ p = gb := fun e => hnb1 e.symm
        go_cut [57] (TkRel w7 gb (o.cls * 4) B')
        case first =>
          go_region_law (first
              | (go_simp; go_at_call 61; with_reducible refine Calls.mono (HTK.out _) ?_; rintro e w8 ⟨rfl, hO8⟩; dsimp only
                 have hB : Below w7.heap.size w7 w8 := (Below.refl w7.heap.size w7).drew.trans (hO8.below (Nat.le_refl _) (fun _ _ h => h))
                 have i0 := (hB.cell (p := ⟨p, 1, none⟩) hpl7).trans k1
                 have i1 := (hB.cell (p := ⟨gb, o.cls * 4, none⟩) hbl7).trans b0
                 have i2 := (hB.cell (p := ⟨gb, o.cls * 4 + 1, none⟩) hbl7).trans b1
                 have i3 := (hB.cell (p := ⟨gb, o.cls * 4 + 2, none⟩) hbl7).trans b2
                 have i4 := (hB.cell (p := ⟨gb, o.cls * 4 + 3, none⟩) hbl7).trans b3
                 have i5 := (hB.cell (p := ⟨g9, 1, none⟩) hg97).trans x1'
                 have hfb8 := (HX7.out.1.below hB).b.fr hlm rfl
                 have f0 := hfb8 (o.cls * 4)
                 have f1 := hfb8 (o.cls * 4 + 1)
                 have f2 := hfb8 (o.cls * 4 + 2)
                 have f3 := hfb8 (o.cls * 4 + 3)
                 have H8 := Lib.hid hB; clear hB hO8 hfb8))
          all_goals
            go_wp2_with fail
            go_meet
            case rel => exact ⟨w8, H8.out, rfl⟩
        case rest =>
          obtain ⟨w8, hB8, rfl⟩ := hcut
          obtain ⟨hP7, hO7, y9⟩ := HX7.out
          have hbr : (S1.ls.map bRow)[o.cls]? = some (bRow L) := by rw [List.getElem?_map, HL.out.1]; rfl
          obtain ⟨hP9, hO9⟩ := (hP7.below hB8).put4 (r := bRow L) hbr rfl rfl (.int .u64 B'.rate) (.int .u64 B'.burst) (.int .u64 B'.tick) (.int .u64 B'.tok)
          have y98 := (hB8.block _ (lt_of_obj y9)).trans y9
          have y99 := hO9.keep y98 (fun e => h9b (by injection e with e; exact e.symm))
          generalize (((w8.setCell ⟨gb, o.cls * 4, none⟩ (.int .u64 B'.rate)).setCell ⟨gb, o.cls * 4 + 1, none⟩ (.int .u64 B'.burst)).setCell ⟨gb, o.cls * 4 + 2, none⟩ (.int .u64 B'.tick)).setCell ⟨gb, o.cls * 4 + 3, none⟩ (.int .u64 B'.tok) = w9 at *
          have hsr : (S1.ls.map sRow)[o.cls]? = some (sRow L) := by rw [List.getElem?_map, HL.out.1]; rfl
          have hl0 : 0 < (S1.ls.map sRow).length := by rw [List.length_map]; omega
          obtain ⟨gs', cs', us, eqs, -, -, -, -, -, -, hs9⟩ := hP9.s.at hsr
          have hfs := hP9.s.fr hl0 rfl
          injection eqs with e1 e2 e3
          injection e1 with e1
          injection e1 with e1
          subst e1
          have s2 : w9.cell? ⟨gs, o.cls * 4 + 2, none⟩ = some (.int .u64 L.out) := hs9 2 (by decide)
          have f2 := hfs (o.cls * 4 + 2)
          have p3 := hP9.c3
          have ho1 := HS1.out.out
          have ho2 := HS1.out.byt
          have hfew := HR.out.2.2.2.1.few
          have hwo : IntKind.u64.wrap ((L.out : Int) + 1) = (L.out : Int) + 1 := IntWalk.u64_in _ (by omega)
          obtain ⟨hPa, hOa⟩ := hP9.inS0 (u := .int .u64 ((L.out : Int) + 1)) hsr rfl (j := 2) (by decide)
          have g9s : ¬ g9 = gs := fun e => by
            obtain ⟨cc, hcc⟩ := hP9.s.typ (k := gs) rfl
            subst e
            exact absurd (ty_apart y99 hcc) (by decide)
          have y9a := hOa.keep y99 (fun e => g9s (by injection e with e; exact e.symm))
          have hBa : Below (w9.setCell ⟨gs, o.cls * 4 + 2, none⟩ (.int .u64 ((L.out : Int) + 1))).heap.size (w9.setCell ⟨gs, o.cls * 4 + 2, none⟩ (.int .u64 ((L.out : Int) + 1))) (w9.setCell ⟨gs, o.cls * 4 + 2, none⟩ (.int .u64 ((L.out : Int) + 1))).drew := (Below.refl _ _).drew
          have hPb := hPa.below hBa
          have y9b := (hBa.block _ (lt_of_obj y9a)).trans y9a
          have HO1 := Lib.hid (And.intro hB8 (And.intro hO9 (And.intro hOa hBa)))
          have HPb := Lib.hid (And.intro hPb y9b)
          clear hP7 hO7 y9 hbr hP9 hO9 y98 y99 hs9 hfs hPa hOa y9a hBa hPb y9b e2 e3 hB8 k1 b0 b1 b2 b3 x1' HTK
          go_wp2_with fail
          refine region_tail 19 (by kernel_rfl) (by kernel_rfl) ?_
          simp only [List.take_succ_cons, List.take_zero, List.drop_succ_cons, List.drop_zero]
          generalize (w9.setCell ⟨gs, o.cls * 4 + 2, none⟩ (.int .u64 ((L.out : Int) + 1))).drew = w11 at *
          have hsrb := List.getElem?_set_self (l := S1.ls.map sRow) (a := (sRow L).set 2 (.int .u64 ((L.out : Int) + 1))) (List.getElem?_eq_some_iff.1 hsr).1
          obtain ⟨gs'', cs'', us', eqs, -, -, -, -, -, -, hs11⟩ := HPb.out.1.s.at hsrb
          have hfs := HPb.out.1.s.fr (by rw [List.length_set]; exact hl0) rfl
          injection eqs with e1 e2 e3
          injection e1 with e1
          injection e1 with e1
          subst e1
          have s3 : w11.cell? ⟨gs, o.cls * 4 + 3, none⟩ = some (.int .u64 L.byt) := hs11 3 (by decide)
          have f3 := hfs (o.cls * 4 + 3)
          have p3' := HPb.out.1.c3
          have x1' : w11.cell? ⟨g9, 1, none⟩ = some (.int .i64 o.x.size) := cell_of_block HPb.out.2 1
          have hwb : IntKind.u64.wrap ((L.byt : Int) + (o.x.size : Int)) = (L.byt : Int) + (o.x.size : Int) := IntWalk.u64_in _ (by omega)
          obtain ⟨hPc, hOc⟩ := HPb.out.1.inS0 (u := .int .u64 ((L.byt : Int) + (o.x.size : Int))) hsrb rfl (j := 3) (by decide)
          rw [List.set_set] at hPc
          have y9c := hOc.keep HPb.out.2 (fun e => g9s (by injection e with e; exact e.symm))
          have HPc := Lib.hid (And.intro hPc (And.intro hOc y9c))
          clear hs11 hfs hPc hOc y9c hsrb s2 f2 p3 e2 e3
          repeat still_step
          refine wpStill_nil ?_
          have t0 : (w11.setCell ⟨gs, o.cls * 4 + 3, none⟩ (.int .u64 ((L.byt : Int) + (o.x.size : Int)))).cell? ⟨g9, 0, none⟩ = some (.int .u64 o.x.no) := cell_of_block HPc.out.2.2 0
          have t1 : (w11.setCell ⟨gs, o.cls * 4 + 3, none⟩ (.int .u64 ((L.byt : Int) + (o.x.size : Int)))).cell? ⟨g9, 1, none⟩ = some (.int .i64 o.x.size) := cell_of_block HPc.out.2.2 1
          have t2 : (w11.setCell ⟨gs, o.cls * 4 + 3, none⟩ (.int .u64 ((L.byt : Int) + (o.x.size : Int)))).cell? ⟨g9, 2, none⟩ = some (.string (str8 o.x.data)) := cell_of_block HPc.out.2.2 2
          have hOall : Only (RD p (.slice (some ⟨gb, 0, none⟩) S.ls.length cb) (.slice (some ⟨gq, 0, none⟩) S.ls.length qc) (.slice (some ⟨gs, 0, none⟩) S.ls.length cs)) wr (w11.setCell ⟨gs, o.cls * 4 + 3, none⟩ (.int .u64 ((L.byt : Int) + (o.x.size : Int)))) :=
            (((((((((Below.only HX.out.2.2.2 _).trans (HX.out.2.2.1.mono fun k _ e => .inl e)).trans (Below.only HB4.out _)).trans (Below.only HX6.out.2.2.2.1 _)).trans (HX7.out.2.1.mono fun k _ e => .inr (.inr (.inl e)))).trans (Below.only HO1.out.1 _)).trans (HO1.out.2.1.mono fun k _ e => .inr (.inl e))).trans (HO1.out.2.2.1.mono fun k _ e => .inr (.inr (.inr e)))).trans (Below.only HO1.out.2.2.2 _)).trans (HPc.out.2.1.mono fun k _ e => .inr (.inr (.inr e)))
          have hO6 : Only (RD p (.slice (some ⟨gb, 0, none⟩) S.ls.length cb) (.slice (some ⟨gq, 0, none⟩) S.ls.length qc) (.slice (some ⟨gs, 0, none⟩) S.ls.length cs)) w6 (w11.setCell ⟨gs, o.cls * 4 + 3, none⟩ (.int .u64 ((L.byt : Int) + (o.x.size : Int)))) :=
            (((((HX7.out.2.1.mono fun k _ e => .inr (.inr (.inl e))).trans (Below.only HO1.out.1 _)).trans (HO1.out.2.1.mono fun k _ e => .inr (.inl e))).trans (HO1.out.2.2.1.mono fun k _ e => .inr (.inr (.inr e)))).trans (Below.only HO1.out.2.2.2 _)).trans (HPc.out.2.1.mono fun k _ e => .inr (.inr (.inr e)))
          have hR12 := HX6.out.2.2.1.keep hO6 (fun k hk e => HX6.out.2.2.1.ne HX6.out.1 hk e)
          have hI12 := isR_set (L' := outL L o.at' o.x l) (y' := .slice a4 l.length k4) (tick := o.at') HR.out.1 HL.out.1 HPc.out.1 (by unfold bRow; rw [HB'.out]) rfl rfl hR12 hOall
          rw [← HL.out.2.2.1] at hI12
          have hC12 := rchg_set (y' := .slice a4 l.length k4) HY.out hOall (fun j hj => .inl (HX4.out.2.2.2 j hj))
          have hrow12 := own_only HR.out.2.2.1 hOall (fun k hk e => by
            have h1 := own_ge HR.out.2.2.1 k hk
            have h2 := H.out.2.2.2 k e
            omega)
          have hws : w.heap.size ≤ wr.heap.size := HR.out.2.1.only.size
          have HE12 := Lib.hid (And.intro hI12 (And.intro hC12 (And.intro hrow12 (And.intro hws hOall.size))))
          obtain ⟨i0, hi0, hz0, hz1, hz2⟩ := info_parts info_ro
          have hlt12 : outs.length ≤ total S.ls := by
            have h1 := HR.out.2.2.2.2.2.2
            omega
          have hle12 : outs.length ≤ 8000000 := by
            have h2 := H.out.2.1.total
            omega
          clear hOall hO6 hR12 hI12 hC12 hrow12 hws HX HX4 HX6 HX7 HO1 HPb HPc HB4 HB' h9b h89 hg8 hg9 ho1 ho2
          go_wp2_with (first | (at_builtin; refine wpList_append_row _ rfl (.tmp 108) (.tmp 113) 117 rfl 142 i0 _ 5 48 Try.underlying117 hi0 hz0 hz1 hz2 rfl (by decide) (.slice a outs.length c) outs.length (roCells outs) rfl (own_lower (own_only HE12.out.2.2.1 (Below.only ((Below.refl _ _).alloc (Nat.le_refl _) _) (fun _ => False)) (fun _ _ h => h)) (Nat.zero_le _)) ⟨w11.heap.size, 0, none⟩ 1 1 [.int .u64 o.at', .int .i64 (o.cls : Nat), .int .u64 o.x.no, .int .i64 o.x.size, .string (str8 o.x.data)] rfl rfl (five_new _ w11.heap.size (by simp [World.setCell]) _ _ _ _ _ _) (by intro u hu; simp at hu; rcases hu with rfl | rfl | rfl | rfl | rfl <;> rfl) (by unfold maxLen; omega) (by omega) ?_))
          intro v13 w13 hown hg hb
          have hA12 : Below (w11.setCell ⟨gs, o.cls * 4 + 3, none⟩ (.int .u64 ((L.byt : Int) + (o.x.size : Int)))).heap.size _ ((w11.setCell ⟨gs, o.cls * 4 + 3, none⟩ (.int .u64 ((L.byt : Int) + (o.x.size : Int)))).alloc (.cells #[.int .u64 o.at', .int .i64 (o.cls : Nat), .int .u64 o.x.no, .int .i64 o.x.size, .string (str8 o.x.data)] 142)) := (Below.refl _ _).alloc (Nat.le_refl _) _
          obtain ⟨va13, vc13, ev13⟩ := own_shape hown
          subst ev13
          have HREL := Lib.hid (rv_next HR.out.2.1 HR.out.2.2.1 HR.out.2.2.2.1 HR.out.2.2.2.2.1 HR.out.2.2.2.2.2.1 HR.out.2.2.2.2.2.2 HST.out HE12.out.1 HE12.out.2.1 (fun k hk => H.out.2.2.2 k hk) HE12.out.2.2.2.1 HE12.out.2.2.2.2 hA12 hown hg (by simpa [World.setCell] using hb))
          clear hown hg hb hA12 HE12 HR HST HL HY t0 t1 t2 s3 f3 p3' x1'
          go_wp2_with fail
          go_roundw
          case rel => exact HREL.out
          case measure => simp [sliceLen]; omega
end Go.Proofs.Ythipfcmjpgbemaa

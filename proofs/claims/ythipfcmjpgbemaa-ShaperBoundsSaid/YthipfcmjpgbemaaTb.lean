/- What went out, held against each class's burst and rate: walked. -/
import Derived.Test.YthipfcmjpgbemaaTa
import Derived.Test.YthipfcmjpgbemaaSv
namespace Go.Proofs.Ythipfcmjpgbemaa
open Go.RowKit

def IRel (W : World) (n : Nat) (iv : Value) (w : World) : Prop := ∃ i : Nat, iv = .int .i64 i ∧ i ≤ n ∧ Below W.heap.size W w
def KRel (W : World) (L : List OutR) (i c : Nat) (sv kv : Value) (w : World) : Prop := ∃ k : Nat, kv = .int .i64 k ∧ i ≤ k ∧ k ≤ L.length ∧ sv = .int .u64 (sumC c ((L.drop i).take (k - i))) ∧ Below W.heap.size W w

theorem cls_at {w : World} {a : Option Addr} {n cap : Nat} {l : List Cl} (h : Cls w (.slice a n cap) l) {c : Nat} {x : Cl} (hx : l[c]? = some x) :
    ∃ b o, a = some ⟨b, o, none⟩ ∧ b < w.heap.size ∧ w.cell? ⟨b, o + c * 4, none⟩ = some (.int .u64 x.rate) ∧ w.cell? ⟨b, o + c * 4 + 1, none⟩ = some (.int .u64 x.burst) ∧ w.cell? ⟨b, o + c * 4 + 2, none⟩ = some (.int .i64 x.items) ∧ w.cell? ⟨b, o + c * 4 + 3, none⟩ = some (.int .i64 x.size) := by
  obtain ⟨a', c', e, hc, h⟩ := h.sh
  injection e with e1 e2 e3
  subst e1
  obtain ⟨b, o, ea, hb, hj⟩ := h (by have := (List.getElem?_eq_some_iff.1 hx).1; omega)
  exact ⟨b, o, ea, hb, hj c x hx⟩

set_option maxHeartbeats 1000000 in
set_option maxRecDepth 100000 in
theorem bounded_is {w : World} {v vo : Value} {l : List Cl} {S : Sh} {off : List (List Nat)} {L : List OutR} {F : Nat → Prop} {xs : List Value} (hl : Cls w v l) (hg : GotR w F vo xs L) (hF : Fair l S off L)
    (hsm : ∀ x ∈ l, x.rate < 1048576 ∧ x.burst < 1048576) (ht : S.tick < 4294967296) (h8 : l.length ≤ 8) (hn : L.length ≤ 100000) :
    Calls Try.prog 18 #[v, vo] w fun e w' => e = .returned (.bool true) ∧ Below w.heap.size w w' := by
  obtain ⟨a, c, rfl, -⟩ := id hl.sh
  obtain ⟨oa, oc, eo⟩ := own_shape hg.row
  subst eo
  have HL := Lib.hid hl
  have HG := Lib.hid hg
  have HF := Lib.hid hF
  have HS := Lib.hid hsm
  clear hl hg hF hsm
  go_enter Try.func18, Try.ntmps18
  go_wp2_with fail
  go_loopw [5] (IRel w L.length) (fun i _ => L.length - (intOf i).toNat)
  case atStart => exact ⟨0, rfl, Nat.zero_le _, Below.refl _ _⟩
  case round =>
    obtain ⟨i, rfl, hi, hB⟩ := hrel
    by_cases hil : i < L.length
    · obtain ⟨o, hoi⟩ : ∃ o, L[i]? = some o := ⟨_, List.getElem?_eq_getElem hil⟩
      obtain ⟨hoc, hoa, hos⟩ := HF.out.cl o (List.mem_of_getElem? hoi)
      obtain ⟨x, hx⟩ : ∃ x, l[o.cls]? = some x := ⟨_, List.getElem?_eq_getElem hoc⟩
      obtain ⟨hr, hb⟩ := HS.out x (List.mem_of_getElem? hx)
      obtain ⟨g, cap, eg, hgl, hcell⟩ := HG.out.at (by omega)
      injection eg with eg1 eg2 eg3
      subst eg1 eg3
      clear eg2
      obtain ⟨b, ob, rfl, hbl, d0, d1, -, -⟩ := cls_at HL.out hx
      obtain ⟨e0, e1, -⟩ := HG.out.cs i o hoi
      have y0 := (hB.cell (p := ⟨g, _, none⟩) hgl).trans (hcell _ _ e0)
      have y1 := (hB.cell (p := ⟨g, _, none⟩) hgl).trans (hcell _ _ e1)
      have hii : (i : Int) < (L.length : Int) := by omega
      have hcl : ¬ (l.length : Int) ≤ (o.cls : Int) := by omega
      have hc0 : ¬ (o.cls : Int) < 0 := by omega
      have HB := Lib.hid hB
      clear hB e0 e1
      go_wp2_with fail
      go_loopw [6, 8] (KRel w L i o.cls) (fun _ k _ => L.length - (intOf k).toNat)
      case atStart => exact ⟨i, rfl, Nat.le_refl _, by omega, by rw [Nat.sub_self]; rfl, HB.out⟩
      case round =>
        clear y0 y1
        obtain ⟨k, rfl, hik, hk, rfl, hB⟩ := hrel
        by_cases hkl : k < L.length
        · obtain ⟨p, hpk⟩ : ∃ p, L[k]? = some p := ⟨_, List.getElem?_eq_getElem hkl⟩
          obtain ⟨hpc, hpa, hps⟩ := HF.out.cl p (List.mem_of_getElem? hpk)
          obtain ⟨e0, e1, -⟩ := HG.out.cs i o hoi
          obtain ⟨f0, f1, yy, hy⟩ := HG.out.cs k p hpk
          have f3 := hy.c1
          have y0 := (hB.cell (p := ⟨g, _, none⟩) hgl).trans (hcell _ _ e0)
          have y1 := (hB.cell (p := ⟨g, _, none⟩) hgl).trans (hcell _ _ e1)
          have z0 := (hB.cell (p := ⟨g, _, none⟩) hgl).trans (hcell _ _ f0)
          have z1 := (hB.cell (p := ⟨g, _, none⟩) hgl).trans (hcell _ _ f1)
          have z3 := (hB.cell (p := ⟨g, _, none⟩) hgl).trans (hcell _ _ f3)
          have x0 := (hB.cell (p := ⟨b, _, none⟩) hbl).trans d0
          have x1 := (hB.cell (p := ⟨b, _, none⟩) hbl).trans d1
          have hki : (k : Int) < (L.length : Int) := by omega
          have hst := sumC_drop_take hik hpk o.cls
          have hsl := sumC_le o.cls ((L.drop i).take (k - i)) (fun q hq => (HF.out.cl q (List.mem_of_mem_drop (List.mem_of_mem_take hq))).2.2)
          rw [List.length_take_of_le (by rw [List.length_drop]; omega)] at hsl
          have HB2 := Lib.hid hB
          clear hB e0 e1 f0 f1 f3 hy
          by_cases hpo : p.cls = o.cls
          · have hup : o.at' ≤ p.at' := by
              rcases Nat.lt_or_ge i k with h1 | h1
              · obtain ⟨h1l, h1e⟩ := List.getElem?_eq_some_iff.1 hoi
                obtain ⟨h2l, h2e⟩ := List.getElem?_eq_some_iff.1 hpk
                have h3 := List.pairwise_iff_getElem.1 HF.out.up i k h1l h2l h1
                rw [h1e, h2e] at h3
                exact h3
              · have e : i = k := by omega
                subst e
                rw [hoi] at hpk
                injection hpk with hpk
                rw [hpk]
                exact Nat.le_refl _
            have hpre := HF.out.pre i k o p x hik hoi hpk hpo hx
            rw [if_pos hpo] at hst
            rw [hst] at hpre
            have HK : Hid (∀ w', Below w.heap.size w w' → KRel w L i o.cls (.int .u64 ((sumC o.cls ((L.drop i).take (k - i)) + p.x.size : Nat) : Int)) (.int .i64 (k + 1 : Nat)) w') := Lib.hid fun w' hB' => ⟨k + 1, rfl, by omega, hkl, by rw [hst], hB'⟩
            obtain ⟨d, hd⟩ : ∃ d, p.at' - o.at' = d := ⟨_, rfl⟩
            have hdi : (p.at' : Int) - (o.at' : Int) = (d : Int) := by omega
            have hdl : d < 4294967296 := by omega
            rw [hd] at hpre
            have hml : x.rate * d ≤ 1048576 * 4294967296 := Nat.mul_le_mul (by omega) (by omega)
            obtain ⟨m, hm⟩ : ∃ m, x.rate * d = m := ⟨_, rfl⟩
            have hmi : (x.rate : Int) * (d : Int) = (m : Int) := by rw [← hm]; simp
            rw [hm] at hpre hml
            clear hst hd hm hpk hoi hx
            generalize hs0 : sumC o.cls ((L.drop i).take (k - i)) = s at *
            obtain ⟨s2, hs2⟩ : ∃ s2, s + p.x.size = s2 := ⟨_, rfl⟩
            rw [hs2] at hpre HK
            have hsi : (s : Int) + (p.x.size : Int) = (s2 : Int) := by omega
            obtain ⟨u, hu⟩ : ∃ u, x.burst + m = u := ⟨_, rfl⟩
            have hui : (x.burst : Int) + (m : Int) = (u : Int) := by omega
            rw [hu] at hpre
            clear hs0
            generalize p.at' = pa at *
            generalize o.at' = oat at *
            generalize p.cls = pc at *
            subst hpo
            generalize p.x.size = psz at *
            generalize x.rate = xr at *
            generalize x.burst = xb at *
            have w1 : IntKind.u64.wrap (psz : Int) = psz := IntWalk.u64_in _ (by omega)
            have w2 : IntKind.u64.wrap ((s : Int) + (psz : Int)) = s2 := by rw [hsi]; exact IntWalk.u64_in _ (by omega)
            have w3 : IntKind.u64.wrap ((pa : Int) - (oat : Int)) = d := by rw [hdi]; exact IntWalk.u64_in _ (by omega)
            have w4 : IntKind.u64.wrap ((xr : Int) * (d : Int)) = m := by rw [hmi]; exact IntWalk.u64_in _ (by omega)
            have w5 : IntKind.u64.wrap ((xb : Int) + (m : Int)) = u := by rw [hui]; exact IntWalk.u64_in _ (by omega)
            have w6 : IntKind.u64.wrap (d : Int) = d := IntWalk.u64_in _ (by omega)
            have w7 : IntKind.u64.wrap (m : Int) = m := IntWalk.u64_in _ (by omega)
            have w8 : IntKind.u64.wrap (u : Int) = u := IntWalk.u64_in _ (by omega)
            have w9 : IntKind.u64.wrap (s2 : Int) = s2 := IntWalk.u64_in _ (by omega)
            have q1 : ¬ (pa : Int) < (oat : Int) := by omega
            have q2 : ¬ (u : Int) < (s2 : Int) := by omega
            go_wp2_with fail
            go_quiet (fail)
            all_goals
              go_wp2_with fail
              go_roundw
              case rel => exact HK.out _ (below_drewN HB2.out _)
              case measure => simp [intOf]; omega
          · have hpo2 : ¬ (p.cls : Int) = (o.cls : Int) := by omega
            rw [if_neg hpo, Nat.add_zero] at hst
            have HK : Hid (KRel w L i o.cls (.int .u64 ((sumC o.cls ((L.drop i).take (k - i)) : Nat) : Int)) (.int .i64 (k + 1 : Nat)) wr) := Lib.hid ⟨k + 1, rfl, by omega, hkl, by rw [hst]; rfl, HB2.out⟩
            clear hst hpk hoi hx
            generalize sumC o.cls ((L.drop i).take (k - i)) = s at *
            go_wp2_with fail
            go_roundw
            case rel => exact HK.out
            case measure => simp [intOf]; omega
        · have hki : ¬ (k : Int) < (L.length : Int) := by omega
          have HR : Hid (IRel w L.length (.int .i64 (i + 1 : Nat)) wr) := Lib.hid ⟨i + 1, rfl, hil, hB⟩
          clear hB
          go_wp2_with fail
          go_roundw
          case rel => exact HR.out
          case measure => simp [intOf]; omega
    · have hii : ¬ (i : Int) < (L.length : Int) := by omega
      have HB := Lib.hid hB
      clear hB
      go_wp2_with fail
      go_ret
      exact ⟨rfl, HB.out⟩
end Go.Proofs.Ythipfcmjpgbemaa

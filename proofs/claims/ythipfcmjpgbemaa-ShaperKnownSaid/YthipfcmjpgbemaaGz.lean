/- ShaperBounds, walked. -/
import Derived.Test.YthipfcmjpgbemaaGy
namespace Go.Proofs.Ythipfcmjpgbemaa
open Go.RowKit

def MRel (W : World) (p : Nat) (v : Value) (ps : List Nat) (g : Nat) (l : List Cl) (n : Nat) (ov kv : Value) (w : World) : Prop :=
  ∃ (k : Nat) (O : Nat → Nat) (S : Sh) (ys : List Value) (off : List (List Nat)) (F : Nat → Prop) (xs : List Value) (L : List OutR) (a : Option Addr) (c : Nat),
    kv = .int .i64 k ∧ k ≤ n ∧ ov = .slice a L.length c ∧ MSt W w p O v ps S g ys off F ov xs L ∧ NSt l S off L k
theorem sumQ_take1 {L : List It} {k : Nat} {x : It} (h : L[k]? = some x) : sumQ (L.take (k + 1)) = sumQ (L.take k) + x.size := by
  rw [List.take_add_one, h]
  simp [sumQ]
theorem sumQ_le : ∀ (L : List It), (∀ x ∈ L, x.size ≤ 2048) → sumQ L ≤ 2048 * L.length
  | [], _ => by simp [sumQ]
  | x :: L, h => by
    have h1 := sumQ_le L (fun y hy => h y (List.mem_cons_of_mem _ hy))
    have h2 := h x (List.mem_cons_self ..)
    have e : sumQ (x :: L) = x.size + sumQ L := by simp [sumQ]
    rw [e, List.length_cons]
    omega

theorem off_neg {S : Sh} {c sz : Int} (no : Nat) (ds : List Nat) (h : sz < 0) : S.offC c sz = 2 ∧ S.off c sz no ds = S := by
  have hb : S.offB c sz = false := by
    unfold Sh.offB
    rw [decide_eq_false (show ¬ (0 ≤ sz ∧ sz ≤ 2048) by omega), Bool.and_false]
  unfold Sh.offC Sh.off
  rw [hb]
  exact ⟨rfl, rfl⟩
theorem off_pos {S : Sh} {c : Nat} {sz : Int} {M : Ln} (hM : S.ls[c]? = some M) (h0 : 0 ≤ sz) (h1 : sz ≤ 2048) (no : Nat) (ds : List Nat) : S.offC c sz = (if roomB M.Q sz = true then 0 else 110) ∧ S.off c sz no ds = ⟨S.tick, S.ls.set c (offL M no sz ds)⟩ := by
  have hcl := (List.getElem?_eq_some_iff.1 hM).1
  have hb : S.offB c sz = true := by
    unfold Sh.offB
    rw [decide_eq_true (show (0 : Int) ≤ (c : Int) ∧ (c : Int) < (S.ls.length : Int) by omega), decide_eq_true ⟨h0, h1⟩]
    rfl
  unfold Sh.offC Sh.off
  rw [if_pos hb, if_pos hb, Int.toNat_natCast, hM]
  refine ⟨?_, rfl⟩
  show pushC M.Q sz = _
  unfold pushC
  rw [if_neg (by omega)]
theorem may_bounds {x : Cl} (h : x.may = true) : 0 ≤ x.items ∧ x.items ≤ 65536 ∧ 0 ≤ x.size := by
  simp [Cl.may] at h
  omega

set_option maxHeartbeats 4000000 in
set_option maxRecDepth 100000 in
theorem bounds_any (l : List Cl) (items : List Ac) (v vi : Value) (w : World) (hl : Cls w v l) (hi : IsAcs w vi items) :
    Calls Try.prog 4 #[v, vi] w fun e w' => e = .returned (.bool true) ∧ Below w.heap.size w w' := by
  obtain ⟨a, c, rfl, -⟩ := id hl.sh
  have HI := Lib.hid hi
  obtain ⟨ai, ci, rfl, hA⟩ := hi
  have HL := Lib.hid hl
  have HA := Lib.hid hA
  clear hl hA
  go_enter Try.func4, Try.ntmps4
  by_cases h8 : 8 < l.length
  · have h8i : (8 : Int) < (l.length : Int) := by omega
    go_wp2_with fail
    refine (works_any _).mono ?_
    rintro e w1 ⟨rfl, hB⟩
    go_wp2_with fail
    go_ret
    exact ⟨rfl, hB⟩
  have h8i : ¬ (8 : Int) < (l.length : Int) := by omega
  go_wp2_with fail
  refine (few_any _ items 60 (by decide) _ HI.out).mono ?_
  rintro e w1 ⟨b, rfl, rfl, hb, -⟩
  cases b with
  | false =>
    clear hb
    go_wp2_with fail
    refine (works_any _).mono ?_
    rintro e w2 ⟨rfl, hB⟩
    go_wp2_with fail
    go_ret
    exact ⟨rfl, hB⟩
  | true =>
    have HF := Lib.hid (hb rfl)
    clear hb
    obtain ⟨w, rfl⟩ : ∃ wo : World, wo = w1 := ⟨_, rfl⟩
    go_wp2_with fail
    go_loop [5] (fun i => ∃ k : Nat, i = .int .i64 k ∧ k ≤ l.length ∧ ∀ x ∈ l.take k, x.rate < 1048576 ∧ x.burst < 1048576) (fun i => l.length - (intOf i).toNat)
    case atStart => exact ⟨0, rfl, Nat.zero_le _, by simp⟩
    case round =>
      obtain ⟨k, rfl, hk, hall⟩ := hrel
      have HALL := Lib.hid hall
      clear hall
      by_cases hlt : k < l.length
      · obtain ⟨x, hx⟩ : ∃ x, l[k]? = some x := ⟨_, List.getElem?_eq_getElem hlt⟩
        obtain ⟨b, ob, rfl, hbl, d0, d1, -, -⟩ := cls_at HL.out hx
        have HX := Lib.hid hx
        have hki : (k : Int) < (l.length : Int) := by omega
        clear hx
        by_cases hr : 1048576 ≤ x.rate
        · have hri : (1048576 : Int) ≤ (x.rate : Int) := by omega
          have hrd : decide (1048576 ≤ x.rate) = true := decide_eq_true hr
          go_wp2_with fail
          refine (works_any _).mono ?_
          rintro e w1 ⟨rfl, hB⟩
          go_wp2_with fail
          go_ret
          exact ⟨rfl, hB⟩
        · have hri : ¬ (1048576 : Int) ≤ (x.rate : Int) := by omega
          have hrd : decide (1048576 ≤ x.rate) = false := decide_eq_false hr
          by_cases hbb : 1048576 ≤ x.burst
          · have hbi : (1048576 : Int) ≤ (x.burst : Int) := by omega
            have hbd : decide (1048576 ≤ x.burst) = true := decide_eq_true hbb
            go_wp2_with fail
            refine (works_any _).mono ?_
            rintro e w1 ⟨rfl, hB⟩
            go_wp2_with fail
            go_ret
            exact ⟨rfl, hB⟩
          · have hbi : ¬ (1048576 : Int) ≤ (x.burst : Int) := by omega
            have hbd : decide (1048576 ≤ x.burst) = false := decide_eq_false hbb
            go_wp2_with fail
            go_round
            case rel =>
              refine ⟨k + 1, by go_num, hlt, ?_⟩
              intro y hy
              rw [List.take_add_one, HX.out] at hy
              rcases List.mem_append.1 hy with hy | hy
              · exact HALL.out y hy
              · simp at hy; subst hy; exact ⟨by omega, by omega⟩
            case measure => simp [intOf]; omega
      · have hki : ¬ (k : Int) < (l.length : Int) := by omega
        have HSM : Hid (∀ x ∈ l, x.rate < 1048576 ∧ x.burst < 1048576) := Lib.hid fun x hx => HALL.out x (by rw [List.take_of_length_le (by omega)]; exact hx)
        clear HALL
        go_wp2_with fail
        refine (snew_any (t := 0) HL.out (by decide)).mono ?_
        rintro e w2 hN
        rcases hN with ⟨hnb, rfl, hB2⟩ | ⟨hnb, p, O, v, ps, rfl, hM⟩
        · go_wp2_with fail
          refine (works_any _).mono ?_
          rintro e w4 ⟨rfl, hB4⟩
          go_wp2_with fail
          go_ret
          exact ⟨rfl, hB2.trans (hB4.mono hB2.size)⟩
        · have HM := Lib.hid hM
          have HNB := Lib.hid hnb
          obtain ⟨hl0, hl8⟩ := newB_len hnb
          obtain ⟨C, hC, hmk⟩ := make_offs l.length (by omega)
          have HC := Lib.hid hC
          clear hM hnb hC
          unfold ptr
          obtain ⟨w2, rfl⟩ : ∃ wo : World, wo = w2 := ⟨_, rfl⟩
          go_wp2_with fail
          have HS : Hid (MSt w (w2.alloc (.cells C 51)) p O v ps ⟨0, l.map (newLn · 0)⟩ w2.heap.size (List.replicate l.length (.slice none 0 0)) (List.replicate l.length []) (fun _ => False) (.slice none 0 0) [] []) := by
            have hs := HM.out.bel.size
            have h1 := offR_new (w := w2) HC.out
            refine Lib.hid ⟨HM.out.below ((Below.refl _ _).alloc (Nat.le_refl _) _), ⟨hs, h1.blk, h1.len, fun c os hc => let ⟨y, hy, hr⟩ := h1.rows c os hc; ⟨y, hy, own_lower hr hs⟩, h1.dj⟩, gotR_nil _, fun j hj => ?_, fun j hj => ?_⟩
            · rcases hj with hj | hj
              · exact hj.elim
              · simp [Value.ownBlock] at hj
            · exact HM.out.is.zero (h1.lt hj).1
          have HN : Hid (NSt l ⟨0, l.map (newLn · 0)⟩ (List.replicate l.length []) [] 0) := Lib.hid ⟨newSh_ok HL.out.ok hl8 (by decide), fair_new l, by
            show total (l.map (newLn · 0)) + 0 ≤ 0
            have : total (l.map (newLn · 0)) = 0 := by
              unfold total
              rw [List.map_map]
              refine List.sum_eq_zero_iff_forall_eq_nat.2 fun x hx => ?_
              obtain ⟨y, -, rfl⟩ := List.mem_map.1 hx
              rfl
            omega, by show 0 < 4294967296; decide, fun os ho => by
            rw [List.eq_of_mem_replicate ho]
            exact Nat.le_refl _⟩
          clear HM HC hmk
          generalize w2.heap.size = g at *
          generalize w2.alloc (.cells C 51) = w3 at *
          go_loopw [9, 10] (MRel w p v ps g l items.length) (fun _ i _ => items.length - (intOf i).toNat)
          case atStart => exact ⟨0, O, _, _, _, _, _, _, none, 0, rfl, Nat.zero_le _, rfl, HS.out, HN.out⟩
          case round =>
            clear HS HN
            obtain ⟨k, O, S, ys, off, F, xs, L, oa, oc, rfl, hk, rfl, hS, hN⟩ := hrel
            by_cases hlt : k < items.length
            · obtain ⟨bi, o, rfl, hbl, hac⟩ := HA.out (by omega)
              obtain ⟨A, hAk⟩ : ∃ A, items[k]? = some A := ⟨_, List.getElem?_eq_getElem hlt⟩
              have hA1 := (hac k A hAk).below hbl hS.m.bel
              obtain ⟨da, dc, ed, _⟩ := hA1.d
              have q0 := hA1.c0
              have q1 := hA1.c1
              have q2 := hA1.c2
              have q3 := hA1.c3
              have q4 := hA1.c4
              have q5 := hA1.c5
              rw [ed] at q4
              have hki : (k : Int) < (items.length : Int) := by omega
              have hf60 := HF.out.1
              have hk60 : k < 60 := by omega
              have HX := Lib.hid (And.intro hS hN)
              clear hS hN hA1 hac ed hAk hbl
              by_cases hdo : A.kind < 3
              · go_wp2_with fail
                have hAl : Below wr.heap.size wr (wr.alloc (.cells #[.int .i64 A.kind, .int .i64 A.cls, .int .u64 A.no, .int .i64 A.size, .slice da A.ds.length dc, .int .u64 A.tick] 36)) := (Below.refl _ _).alloc (Nat.le_refl _) _
                have ga := alloc_block_new wr (.cells #[.int .i64 A.kind, .int .i64 A.cls, .int .u64 A.no, .int .i64 A.size, .slice da A.ds.length dc, .int .u64 A.tick] 36)
                have HX := Lib.hid (And.intro (HX.out.1.below hAl) HX.out.2)
                clear hAl
                generalize wr.heap.size = ab at *
                generalize wr.alloc (.cells #[.int .i64 A.kind, .int .i64 A.cls, .int .u64 A.no, .int .i64 A.size, .slice da A.ds.length dc, .int .u64 A.tick] 36) = wa at *
                have a3 : wa.cell? ⟨ab, 3, none⟩ = some (.int .i64 A.size) := cell_of_block ga 3
                clear ga
                refine (pick_any A.cls l.length (by omega) (by omega) _).mono ?_
                rintro e w4 ⟨rfl, rfl⟩
                have hpl := pickN_lt (i := A.cls) (n := l.length) (by omega)
                generalize pickN A.cls l.length = cc at *
                go_wp2_with fail
                have hz1 : A.size.tmod 2049 < 2049 := Int.tmod_lt_of_pos _ (by decide)
                have hz2 : -2049 < A.size.tmod 2049 := by have := Int.lt_tmod_of_pos A.size (show (0 : Int) < 2049 by decide); omega
                generalize A.size.tmod 2049 = sz at *
                have hccl : cc < l.length := by omega
                obtain ⟨M, hM⟩ : ∃ M, S.ls[cc]? = some M := ⟨_, List.getElem?_eq_getElem (by rw [HX.out.2.fair.ll]; exact hccl)⟩
                obtain ⟨x, hx⟩ : ∃ x, l[cc]? = some x := ⟨_, List.getElem?_eq_getElem hccl⟩
                obtain ⟨os, hos⟩ : ∃ os, off[cc]? = some os := ⟨_, List.getElem?_eq_getElem (by rw [HX.out.2.fair.lo]; exact hccl)⟩
                have hqd : S.queued cc = M.Q.L := by
                  unfold Sh.queued
                  rw [if_neg (by omega), Int.toNat_natCast, hM]
                have hQ := Queued_is HX.out.1.m.is cc
                rw [hqd] at hQ
                unfold ptr at hQ
                refine hQ.mono ?_
                rintro e w5 ⟨qv, qs, QF, rfl, hQN, hQB⟩
                have hMok := HX.out.2.ok.ln M (List.mem_of_getElem? hM)
                have hml := hMok.out
                have hms := sumQ_le M.Q.L hMok.size
                obtain ⟨qa, qc, eq⟩ := own_shape hQN.row
                subst eq
                have HQN := Lib.hid hQN
                have HX5 := Lib.hid (And.intro (HX.out.1.below hQB) HX.out.2)
                obtain ⟨b, ob, rfl, hbl, d0, d1, d2, d3⟩ := cls_at HL.out hx
                have x2 := (HX5.out.1.m.bel.cell (p := ⟨b, _, none⟩) hbl).trans d2
                have x3 := (HX5.out.1.m.bel.cell (p := ⟨b, _, none⟩) hbl).trans d3
                obtain ⟨hb1, hb2, hb3⟩ := may_bounds (x := x) (by
                  have h1 := HNB.out
                  simp [newB] at h1
                  exact h1.2 x (List.mem_of_getElem? hx))
                obtain ⟨-, -, -, -, hqi, hqb⟩ := HX.out.2.fair.ln cc x M hx hM
                have hxs := (HL.out.ok x (List.mem_of_getElem? hx)).size
                have HM := Lib.hid (And.intro hM hos)
                clear hQ hQN hQB HX hqd a3 d0 d1 d2 d3 hx hM hos hMok
                generalize x.items = xi at *
                generalize x.size = xz at *
                obtain ⟨it, rfl⟩ := Int.eq_ofNat_of_zero_le hb1
                obtain ⟨zz, rfl⟩ := Int.eq_ofNat_of_zero_le hb3
                rw [Int.toNat_natCast] at hqi hqb
                go_wp2_with fail
                go_loop [15, 16] (fun sv iv => ∃ m : Nat, iv = .int .i64 m ∧ sv = .int .i64 (sumQ (M.Q.L.take m)) ∧ m ≤ M.Q.L.length) (fun _ iv => M.Q.L.length - (intOf iv).toNat)
                case atStart => exact ⟨0, rfl, rfl, Nat.zero_le _⟩
                case round =>
                  obtain ⟨m, rfl, rfl, hm⟩ := hrel
                  by_cases hlt2 : m < M.Q.L.length
                  · obtain ⟨y, hy⟩ : ∃ y, M.Q.L[m]? = some y := ⟨_, List.getElem?_eq_getElem hlt2⟩
                    obtain ⟨qg, qcap, eq, hqg, -, hcell⟩ := row_cell HQN.out.row (by omega)
                    injection eq with e1 e2 e3
                    subst e1 e3
                    clear e2
                    obtain ⟨yv, hyt⟩ := HQN.out.cs m y hy
                    have y1 := (hcell (m * 3 + 1) (by omega)).trans hyt.c1
                    have hmi : (m : Int) < (M.Q.L.length : Int) := by omega
                    have hst := sumQ_take1 hy
                    have hsl : sumQ (M.Q.L.take (m + 1)) ≤ 2048 * M.Q.L.length := by
                      have h1 := sumQ_le (M.Q.L.take (m + 1)) (fun z hz => by
                        obtain ⟨-, -⟩ := HM.out
                        exact (HX5.out.2.ok.ln M (List.mem_of_getElem? HM.out.1)).size z (List.mem_of_mem_take hz))
                      rw [List.length_take_of_le (by omega)] at h1
                      omega
                    have hw1 : IntKind.i64.wrap ((sumQ (M.Q.L.take m) : Int) + (y.size : Int)) = ((sumQ (M.Q.L.take m) : Nat) : Int) + (y.size : Int) := IntWalk.i64_in _ (by omega)
                    have HST := Lib.hid hst
                    clear hst hsl hy hcell hyt
                    go_wp2_with fail
                    go_round
                    case rel => exact ⟨m + 1, by go_num, by rw [HST.out]; rfl, by omega⟩
                    case measure => simp [intOf]; omega
                  · have hmi : ¬ (m : Int) < (M.Q.L.length : Int) := by omega
                    rw [List.take_of_length_le (by omega)]
                    obtain ⟨sm, hsm⟩ : ∃ sm, sumQ M.Q.L = sm := ⟨_, rfl⟩
                    obtain ⟨ql, hql⟩ : ∃ ql, M.Q.L.length = ql := ⟨_, rfl⟩
                    have hrB : ∀ sz, roomB M.Q sz = decide (0 ≤ sz ∧ ql < it ∧ sz ≤ (zz : Int) - (sm : Int)) := fun sz => by
                      unfold roomB
                      rw [hqi, hqb, hsm, hql]
                    have HRB := Lib.hid hrB
                    rw [hsm] at hms ⊢
                    rw [hql] at hms hml hmi hm ⊢
                    have hku : IntKind.u64.wrap (k : Int) = (k : Int) := IntWalk.u64_in _ (by omega)
                    have hwz : IntKind.i64.wrap ((zz : Int) - (sm : Int)) = (zz : Int) - (sm : Int) := IntWalk.i64_in _ (by omega)
                    clear hrB hsm hql hqi hqb HQN
                    by_cases hs0 : sz < 0
                    · obtain ⟨oc1, of1⟩ := off_neg (S := S) (c := cc) k [] hs0
                      have hs0' : ¬ 0 ≤ sz := by omega
                      have hs0d : decide (0 ≤ sz) = false := decide_eq_false hs0'
                      have hs0e : decide (sz < 0) = true := decide_eq_true hs0
                      have hO := offer_any cc sz k (.slice none 0 0) [] HX5.out.1.m.is HX5.out.2.ok (holds_nil _) (fun h => absurd h (by decide)) (by decide)
                      rw [oc1, of1] at hO
                      have HO := Lib.hid hO
                      clear hO oc1 of1
                      go_wp2_with fail
                      refine HO.out.mono ?_
                      rintro e w6 ⟨rfl, O6, hI, hG⟩
                      have HR : Hid (MRel w p v ps g l items.length (.slice oa L.length oc) (.int .i64 (k + 1 : Nat)) w6) := Lib.hid ⟨k + 1, O6, S, ys, off, F, xs, L, oa, oc, rfl, hlt, rfl, HX5.out.1.keepS hI hG, HX5.out.2.mono (Nat.le_succ _) (by omega)⟩
                      clear hI hG HO HX5 HRB HM
                      go_wp2_with fail
                      go_roundw
                      case rel => exact HR.out
                      case measure => simp [intOf]; omega
                    · have h0 : 0 ≤ sz := by omega
                      have h1 : sz ≤ 2048 := by omega
                      obtain ⟨oc1, of1⟩ := off_pos HM.out.1 h0 h1 k []
                      have hs0d : decide (0 ≤ sz) = true := decide_eq_true h0
                      have hs0e : decide (sz < 0) = false := decide_eq_false hs0
                      have hO := offer_any cc sz k (.slice none 0 0) [] HX5.out.1.m.is HX5.out.2.ok (holds_nil _) (fun h => absurd h (by decide)) (by decide)
                      have hN1 := HX5.out.2.offer (no := k) HM.out.1 HM.out.2 h0 h1 (by omega)
                      rw [oc1, of1] at hO
                      have hrr := HRB.out sz
                      cases hr : roomB M.Q sz with
                      | true =>
                        rw [hr, if_pos rfl] at hN1
                        rw [hr, if_pos rfl] at hO
                        rw [hr] at hrr
                        obtain ⟨-, r1, r2⟩ := of_decide_eq_true hrr.symm
                        have r1i : (ql : Int) < (it : Int) := by omega
                        have r1d : decide (ql < it) = true := decide_eq_true r1
                        have r2d : decide (sz ≤ (zz : Int) - (sm : Int)) = true := decide_eq_true r2
                        have HO := Lib.hid hO
                        have HN1 := Lib.hid hN1
                        have hosl := HX5.out.2.ov os (List.mem_of_getElem? HM.out.2)
                        clear hO oc1 of1 hN1 hrr hr HRB
                        go_wp2_with fail
                        refine HO.out.mono ?_
                        rintro e w6 ⟨rfl, O6, hI, hG⟩
                        have HS6 := Lib.hid (HX5.out.1.keepS hI hG)
                        clear hI hG HO
                        obtain ⟨yv, hyv, hyr, hyc⟩ := HS6.out.o.at HM.out.2
                        have hyr2 := own_lower hyr (Nat.zero_le _)
                        obtain ⟨ya, yk, eyv⟩ := own_shape hyr
                        subst eyv
                        have HY := Lib.hid (And.intro hyv hyr2)
                        obtain ⟨i0, hi, hz0, hz1, hz2⟩ := info_parts info_u64n
                        clear hyv hyr hyr2
                        go_wp2_with (first | (at_builtin; refine wpList_append_row _ rfl (.tmp 160) (.tmp 163) 51 rfl 30 i0 (.int .u64 0) 1 8 Try.underlying51 hi hz0 hz1 hz2 rfl (by decide) (.slice ya os.length yk) os.length (nCells os) rfl (own_only HY.out.2 (Below.only ((Below.refl w6.heap.size w6).alloc (Nat.le_refl _) (.cells #[.int .u64 k] 30)) (fun _ => False)) (fun _ _ h => h)) ⟨w6.heap.size, 0, none⟩ 1 1 [.int .u64 k] rfl rfl (one_new _ _ _) (by intro u hu; simp at hu; subst hu; rfl) (by unfold maxLen; omega) (by omega) ?_))
                        intro v7 w7 hown7 hg7 hb7
                        have hS7 := (HS6.out.below ((Below.refl w6.heap.size w6).alloc (Nat.le_refl _) (.cells #[.int .u64 k] 30))).push HM.out.2 HY.out.1 hown7 hg7 (by simpa using hb7)
                        have hne := HS6.out.o.ne HY.out.1
                        obtain ⟨cs, hblk, hcs⟩ := HS6.out.o.blk
                        have hb6 := (((Below.refl w6.heap.size w6).alloc (Nat.le_refl _) (.cells #[.int .u64 k] 30)).block _ (lt_of_obj hblk)).trans hblk
                        have hb8 := grown_keep hg7 hb6 hne
                        have z1 : w7.cell? ⟨g, cc, none⟩ = some (.slice ya os.length yk) := (cell_of_block hb8 cc).trans ((cell_of_block hblk cc).symm.trans hyc)
                        have z2 : w7.frozen? ⟨g, cc, none⟩ = false := free_of_block hb8 cc
                        obtain ⟨va, vk, ev7⟩ := own_shape hown7
                        subst ev7
                        have HR : Hid (MRel w p v ps g l items.length (.slice oa L.length oc) (.int .i64 (k + 1 : Nat)) (w7.setCell ⟨g, cc, none⟩ (.slice va (os.length + 1) vk))) := Lib.hid ⟨k + 1, O6, _, _, _, F, xs, L, oa, oc, rfl, hlt, rfl, hS7, HN1.out⟩
                        clear hown7 hg7 hb7 hS7 hne hblk hcs hb6 hb8 HN1 HS6 HX5 HY HM hyc
                        go_wp2_with fail
                        go_roundw
                        case rel => exact HR.out
                        case measure => simp [intOf]; omega
                      | false =>
                        rw [hr, if_neg (by decide)] at hN1
                        rw [hr, if_neg (by decide)] at hO
                        rw [hr] at hrr
                        have hrn := of_decide_eq_false hrr.symm
                        have HO := Lib.hid hO
                        have HN1 := Lib.hid hN1
                        clear hO oc1 of1 hN1 hrr hr HRB
                        by_cases r1 : ql < it
                        · have r1i : (ql : Int) < (it : Int) := by omega
                          have r1d : decide (ql < it) = true := decide_eq_true r1
                          have r2 : ¬ sz ≤ (zz : Int) - (sm : Int) := fun h => hrn ⟨h0, r1, h⟩
                          have r2d : decide (sz ≤ (zz : Int) - (sm : Int)) = false := decide_eq_false r2
                          clear hrn
                          go_wp2_with fail
                          refine HO.out.mono ?_
                          rintro e w6 ⟨rfl, O6, hI, hG⟩
                          have HR : Hid (MRel w p v ps g l items.length (.slice oa L.length oc) (.int .i64 (k + 1 : Nat)) w6) := Lib.hid ⟨k + 1, O6, _, ys, off, F, xs, L, oa, oc, rfl, hlt, rfl, HX5.out.1.keepS hI hG, HN1.out⟩
                          clear hI hG HO HX5 HM HN1
                          go_wp2_with fail
                          go_roundw
                          case rel => exact HR.out
                          case measure => simp [intOf]; omega
                        · have r1i : ¬ (ql : Int) < (it : Int) := by omega
                          have r1d : decide (ql < it) = false := decide_eq_false r1
                          clear hrn
                          go_wp2_with fail
                          refine HO.out.mono ?_
                          rintro e w6 ⟨rfl, O6, hI, hG⟩
                          have HR : Hid (MRel w p v ps g l items.length (.slice oa L.length oc) (.int .i64 (k + 1 : Nat)) w6) := Lib.hid ⟨k + 1, O6, _, ys, off, F, xs, L, oa, oc, rfl, hlt, rfl, HX5.out.1.keepS hI hG, HN1.out⟩
                          clear hI hG HO HX5 HM HN1
                          go_wp2_with fail
                          go_roundw
                          case rel => exact HR.out
                          case measure => simp [intOf]; omega
              · have hdo2 : decide (A.kind < 3) = false := decide_eq_false hdo
                go_wp2_with fail
                have hAl : Below wr.heap.size wr (wr.alloc (.cells #[.int .i64 A.kind, .int .i64 A.cls, .int .u64 A.no, .int .i64 A.size, .slice da A.ds.length dc, .int .u64 A.tick] 36)) := (Below.refl _ _).alloc (Nat.le_refl _) _
                have HX := Lib.hid (And.intro (HX.out.1.below hAl) HX.out.2)
                clear hAl
                generalize wr.heap.size = ab at *
                generalize wr.alloc (.cells #[.int .i64 A.kind, .int .i64 A.cls, .int .u64 A.no, .int .i64 A.size, .slice da A.ds.length dc, .int .u64 A.tick] 36) = wa at *
                obtain ⟨t, ht⟩ : ∃ t : Nat, (A.tick : Int) % 4294967296 = t := ⟨A.tick % 4294967296, by omega⟩
                have ht2 : t < 4294967296 := by omega
                rw [ht]
                have hr := Release_is (t := t) HX.out.1.m.is HX.out.2.ok (by omega)
                unfold ptr at hr
                refine hr.mono ?_
                clear hr
                rintro e wB ⟨O2, F2, vo, ys2, rfl, hR⟩
                have hK := HX.out.1.keepS hR.is hR.grow
                have hN2 := HX.out.2.rel ht2
                obtain ⟨va, vc, evo⟩ := own_shape hR.new.row
                subst evo
                have hNW := hR.new.got
                have hlen : L.length + (S.rel t).2.length ≤ 1000000 := by
                  have h1 := hN2.1.tot
                  rw [List.length_append] at h1
                  omega
                have HNW := Lib.hid hNW
                have HK := Lib.hid hK
                have HR2 := Lib.hid (And.intro hR hN2)
                clear hK hNW hR hN2
                generalize (S.rel t).2 = M at *
                generalize (S.rel t).1 = S2 at *
                go_wp2_with (first | (at_builtin; refine wpList_append_got rfl (.tmp 166) (.tmp 171) rfl HK.out.r HNW.out rfl rfl hlen ?_))
                intro v3 w7 hG3 hO3 hv3
                have hS3 := HX.out.1.out HR2.out.1 hG3 hO3 hv3
                obtain ⟨v3a, v3c, ev3⟩ := own_shape hG3.row
                subst ev3
                have HS3 := Lib.hid (And.intro hS3 (HR2.out.2.1.mono (Nat.le_succ k) (by omega)))
                have HNX := Lib.hid HR2.out.2.2
                clear hS3 hG3 hO3 hv3 HR2 HK HNW HX
                go_wp2_with fail
                have hn := Next_is HS3.out.1.m.is HS3.out.2.ok
                unfold ptr at hn
                refine hn.mono ?_
                clear hn
                rintro e w8 ⟨rfl, hB8⟩
                have hS8 := HS3.out.1.below hB8
                have HT := Lib.hid (Tick_is hS8.m.is)
                have HR : Hid (MRel w p v ps g l items.length (.slice v3a (L ++ M).length v3c) (.int .i64 (k + 1 : Nat)) w8) := Lib.hid ⟨k + 1, O2, S2, ys, off, _, _, L ++ M, v3a, v3c, rfl, hlt, rfl, hS8, HS3.out.2⟩
                clear hS8 hB8 HS3
                have hnx := HNX.out
                clear HNX
                generalize S2.next.at' = nat at *
                generalize (L ++ M).length = lm at *
                cases hok : S2.next.ok with
                | false =>
                  clear hnx
                  go_wp2_with fail
                  go_roundw
                  case rel => exact HR.out
                  case measure => simp [intOf]; omega
                | true =>
                  have hgt := hnx hok
                  clear hnx
                  have hgi : ¬ (nat : Int) ≤ (S2.tick : Int) := by omega
                  have hgd : decide (nat ≤ S2.tick) = false := decide_eq_false (by omega)
                  go_wp2_with fail
                  have ht := HT.out
                  unfold ptr at ht
                  refine ht.mono ?_
                  clear ht
                  rintro e w9 ⟨rfl, rfl⟩
                  go_wp2_with fail
                  go_roundw
                  case rel => exact HR.out
                  case measure => simp [intOf]; omega
            · have hki : ¬ (k : Int) < (items.length : Int) := by omega
              have HX := Lib.hid (And.intro hS hN)
              have hf60 := HF.out.1
              have hLL : L.length ≤ 100000 := by have := hN.tot; omega
              have hlo := hN.fair.lo
              have hov : ∀ os ∈ off, os.length ≤ 100000 := fun os ho => by have := hN.ov os ho; omega
              clear hS hN
              go_wp2_with fail
              refine (bounded_is (HL.out.below HX.out.1.m.bel) HX.out.1.r HX.out.2.fair HSM.out HX.out.2.tick (by omega) hLL).mono ?_
              rintro e w4 ⟨rfl, hB4⟩
              have HX4 := Lib.hid (And.intro (HX.out.1.below hB4) HX.out.2)
              clear hB4 HX
              go_wp2_with fail
              refine (ordered_is HX4.out.1.o HX4.out.1.r HX4.out.2.fair hlo hov (by omega) hLL).mono ?_
              rintro e w5 ⟨rfl, hB5⟩
              have HB5 := Lib.hid (HX4.out.1.below hB5).m.bel
              clear hB5 HX4
              go_wp2_with fail
              refine (works_any _).mono ?_
              rintro e w6 ⟨rfl, hB6⟩
              go_wp2_with fail
              go_ret
              exact ⟨rfl, HB5.out.trans (hB6.mono HB5.out.size)⟩
end Go.Proofs.Ythipfcmjpgbemaa

/- ShaperBounds' walk, over whatever was opened. -/
namespace Go.Proofs.Ythipfcmjpgbemaa
open Go.RowKit
theorem bounds_ex (lv iv : Value) (w : World) (h1 : ∃ l, Cls w lv l) (h2 : ∃ l, IsAcs w iv l) :
    Calls Try.prog 4 #[lv, iv] w fun e w' => e = .returned (.bool true) ∧ Below w.heap.size w w' := by
  obtain ⟨l, hl⟩ := h1
  obtain ⟨i, hi⟩ := h2
  exact bounds_any l i lv iv w hl hi
end Go.Proofs.Ythipfcmjpgbemaa

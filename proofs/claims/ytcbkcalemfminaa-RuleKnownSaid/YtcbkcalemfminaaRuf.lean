/- Dead: walked. -/
import Derived.Test.YtcbkcalemfminaaRue
namespace Go.Proofs.Ytcbkcalemfminaa
open Go.RowKit
attribute [local go_sem ↓] load_ad load_pf load_ru load_ky load_bs build_pf build_ru build_cl

/-- Whether each part of a rule holds what another's asks for. -/
def Ru.covers (r s : Ru) : Bool := !((List.range 6).any fun i => !holdsP i r s)
/-- The rules, of the first n, that one ahead covers. -/
def deadsTo (l : List Ru) (n : Nat) : List Nat := (List.range n).filter fun i => (l.take i).any fun r => match l[i]? with | some s => r.covers s | none => false
def deads (l : List Ru) : List Nat := deadsTo l l.length

theorem deadsTo_succ (l : List Ru) (n : Nat) : deadsTo l (n + 1) = deadsTo l n ++ (if ((l.take n).any fun r => match l[n]? with | some s => r.covers s | none => false) = true then [n] else []) := by
  unfold deadsTo
  rw [List.range_succ, List.filter_append]
  congr 1
  by_cases h : ((l.take n).any fun r => match l[n]? with | some s => r.covers s | none => false) = true
  · simp [h]
  · simp [h]
def iCells (ns : List Nat) : List Value := ns.map fun (n : Nat) => .int .i64 (n : Nat)
theorem info_int : (Try.prog.info? 3).map (fun i => (i.zero, i.size, i.bytes)) = some (some (Value.int .i64 0), 1, 8) := by kernel_rfl
theorem deadsTo_len (l : List Ru) (n : Nat) : (deadsTo l n).length ≤ n := by
  have := List.length_filter_le (fun i => (l.take i).any fun r => match l[i]? with | some s => r.covers s | none => false) (List.range n)
  simpa [deadsTo] using this

theorem own_cap {w : World} {base : Nat} {e : TypeId} {size n c m : Nat} {a : Option Addr} {xs : List Value} (h : w.ownsRow base e size (.slice a m c) n xs) : n ≤ c := by
  rcases h.2 with ⟨hv, h0⟩ | ⟨g, cap, cur, hv, _, _, hnc, _⟩
  · omega
  · injection hv with _ _ e
    omega

/-- Ahead of each rule. -/
def DRel (W w0 : World) (l : List Ru) (i v : Value) (w : World) : Prop :=
  ∃ k : Nat, i = .int .i64 k ∧ k ≤ l.length ∧ w.ownsRow w0.heap.size 3 1 v (deadsTo l k).length (iCells (deadsTo l k)) ∧ Below w0.heap.size w0 w ∧ (∀ j, v.ownBlock = some j → w0.heap.size ≤ j)
/-- Ahead of each rule before it. -/
def ERel (w0 : World) (l : List Ru) (s : Ru) (k : Nat) (u : Value) (i v : Value) (w : World) : Prop :=
  ∃ j : Nat, i = .int .i64 j ∧ j ≤ k ∧ v = u ∧ Below w0.heap.size w0 w ∧ ∀ q r, q < j → l[q]? = some r → r.covers s = false

set_option maxRecDepth 100000 in
set_option maxHeartbeats 4000000 in
theorem dead_is {w : World} {B T p : Nat} {o : Ru} {l : List Ru} {hs : List Nat} (hC : IsC w B T p o l hs) (hlen : l.length ≤ 1000000) :
    Calls Try.prog 9 #[.pointer (some ⟨p, 0, none⟩)] w fun e w' => ∃ v, e = .returned v ∧ w'.ownsRow w.heap.size 3 1 v (deads l).length (iCells (deads l)) ∧ Below w.heap.size w w' := by
  have hmf : ∀ (fn : Fn) (first cap : Array Value) (w : World), (Instr.makeFunc fn first cap).run Try.prog w = .ok (.func fn first cap) w := fun fn first cap w => by simp [Instr.makeFunc]
  obtain ⟨ii, hi, hz0, hz1, hz2⟩ := info_parts info_int
  have HI := Lib.hid (And.intro hi (And.intro hz0 (And.intro hz1 hz2)))
  clear hi hz0 hz1 hz2
  have HC := Lib.hid hC
  clear hC
  go_enter Try.func9, Try.ntmps9
  go_wp2_with fail
  refine wp_scope_straight ?_
  go_wp2_with fail
  refine (all_is _).mono ?_
  rintro e w1 ⟨g, c, rfl, hA, hB1⟩
  have C1 := HC.out.below hB1
  obtain ⟨va, vh, hb, hv, _⟩ := C1.ex
  obtain ⟨ra, rc, rfl⟩ := own_shape hv
  have c0 := cl0 hb
  have hcap := own_cap hv
  have hpl := lt_of_obj hb
  have hRl := hv.rules C1.lok
  have H1 := Lib.hid (And.intro hRl (And.intro hA (And.intro hb hB1)))
  have hnr : ∀ r ∈ l, r.Ok := C1.lok
  clear hv hb hA hB1 C1 hRl
  go_wp2_with fail
  refine wp_label ?_
  go_wp2_with fail
  go_loopw [16, 2] (DRel w w1 l) (fun i _ _ => l.length - (intOf i).toNat)
  case atStart => exact ⟨0, rfl, Nat.zero_le _, World.ownsRow_nil _ _ _ _, Below.refl _ _, fun j hj => by simp [Value.ownBlock] at hj⟩
  case round =>
    obtain ⟨k, rfl, hk, hrow, hB, hvb⟩ := hrel
    by_cases hkl : k < l.length
    · obtain ⟨_, _, e1, _, hrw⟩ := H1.out.1
      injection e1 with e1 _ e3
      subst e1 e3
      obtain ⟨rb, ro, rfl, hrb, hAr⟩ := hrw (by omega)
      obtain ⟨s, hsk⟩ : ∃ s, l[k]? = some s := ⟨_, List.getElem?_eq_getElem hkl⟩
      obtain ⟨hsok, hsr⟩ := hAr k s hsk
      have lS := row_ru hsok (range_below hsr hrb hB)
      have hki : (k : Int) < (l.length : Int) := by omega
      obtain ⟨v2a, v2c, rfl⟩ := own_shape hrow
      have HR := Lib.hid (And.intro hrow (And.intro hB (And.intro hvb (And.intro hsk hAr))))
      have hBs := hB.size
      clear hrow hB hvb hsk hAr hsr
      obtain ⟨wk, rfl⟩ : ∃ wo : World, wo = wr := ⟨_, rfl⟩
      go_wp2_with (first | (refine wpList_store_blk rfl 43 (.tmp 5) (.tmp 20) rfl wk.heap.size s.arr rfl rfl 43 Ru.zero.arr (alloc_block_new wk (.cells Ru.zero.arr 43)) (by rw [Ru.arr_size hsok]; kernel_rfl) (by rw [Ru.arr_size hsok]; rfl) s.all ?_))
      intro w2 hS
      have hB2 : Below wk.heap.size wk w2 := ((Below.refl _ _).alloc (Nat.le_refl _) (.cells Ru.zero.arr 43)).trans (hS.only.below (by simp) (fun k hk e => by omega))
      have hsb := hS.blk
      generalize hsbe : wk.heap.size = sb at *
      have HSB := Lib.hid hsbe
      clear hsbe
      have S2 : RuAt w2 sb s := ⟨hsok, lt_of_obj hsb, range_block hsb⟩
      have HB2 := Lib.hid (And.intro hB2 (HR.out.2.1.trans (hB2.mono (by omega))))
      have HS2 := Lib.hid S2
      have hsl := S2.lt
      have c0' : w2.cell? ⟨p, 0, none⟩ = _ := (HB2.out.2.cell (p := ⟨p, 0, none⟩) hpl).trans c0
      clear hS hB2 hsb S2 lS
      have hkc : (k : Int) ≤ (rc : Int) := by omega
      go_wp2_with fail
      go_loopw [28, 2] (ERel w2 l s k (.slice v2a (deadsTo l k).length v2c)) (fun i _ _ => k - (intOf i).toNat)
      case atStart => exact ⟨0, rfl, Nat.zero_le _, rfl, Below.refl _ _, fun q r hq => by omega⟩
      case round =>
        obtain ⟨j, rfl, hjk1, rfl, hBj, hno⟩ := hrel
        by_cases hjk : j < k
        · obtain ⟨r, hrj⟩ : ∃ r, l[j]? = some r := ⟨_, List.getElem?_eq_getElem (by omega)⟩
          obtain ⟨hrok, hrr⟩ := HR.out.2.2.2.2 j r hrj
          have hBw := HB2.out.2.trans (hBj.mono HB2.out.2.size)
          have lR := row_ru hrok (range_below hrr hrb hBw)
          have hji : (j : Int) < (k : Int) := by omega
          have HJ := Lib.hid (And.intro hBj (And.intro hno (And.intro hrj hBw)))
          have hss := hBj.size
          clear hBj hno hrj hrr hBw
          obtain ⟨wj, rfl⟩ : ∃ wo : World, wo = wr := ⟨_, rfl⟩
          go_wp2_with (first | (refine wpList_store_blk rfl 43 (.tmp 7) (.tmp 31) rfl wj.heap.size r.arr rfl rfl 43 Ru.zero.arr (alloc_block_new wj (.cells Ru.zero.arr 43)) (by rw [Ru.arr_size hrok]; kernel_rfl) (by rw [Ru.arr_size hrok]; rfl) r.all ?_))
          intro w3 hS
          have hB3 : Below wj.heap.size wj w3 := ((Below.refl _ _).alloc (Nat.le_refl _) (.cells Ru.zero.arr 43)).trans (hS.only.below (by simp) (fun k hk e => by omega))
          have hrb2 := hS.blk
          have hB23 := HJ.out.1.trans (hB3.mono hss)
          have hB13 := HB2.out.2.trans (hB23.mono HB2.out.2.size)
          generalize wj.heap.size = rbb at *
          have R3 : RuAt w3 rbb r := ⟨hrok, lt_of_obj hrb2, range_block hrb2⟩
          have S3 := HS2.out.below hB23
          have A3 := H1.out.2.1.below hB13
          have HCO := Lib.hid (contains_asks 26 (.inr rfl) (.pointer (some ⟨rbb, 0, none⟩)) (.pointer (some ⟨sb, 0, none⟩)) (fun i => !holdsP i r s) A3 (fun i hi w' hB' => ask_holds i hi (R3.below hB') (S3.below hB')))
          have HB3 := Lib.hid (And.intro hB23 hB13)
          have HCV : Hid (((List.range 6).any fun i => !holdsP i r s) = !r.covers s) := by
            show _ = _
            unfold Ru.covers
            simp only [Bool.not_not]
          clear hS hB3 hrb2 hB23 hB13 R3 S3 A3 lR
          rw [HCV.out] at HCO
          clear HCV
          go_wp2_with fail
          refine HCO.out.mono ?_
          rintro e w4 ⟨rfl, hB4⟩
          have HB4 := Lib.hid (And.intro (HB3.out.1.trans (hB4.mono HB3.out.1.size)) (HB3.out.2.trans (hB4.mono HB3.out.2.size)))
          clear hB4
          cases hcv : r.covers s with
          | true =>
            have hBk4 : Below wk.heap.size wk w4 := by rw [HSB.out]; exact HB2.out.1.trans (HB4.out.1.mono (by omega))
            have row4 := own_only HR.out.1 (Below.only hBk4 (fun _ => False)) (fun _ _ h => h)
            have hany : ((l.take k).any fun r => match l[k]? with | some s => r.covers s | none => false) = true := by
              rw [HR.out.2.2.2.1]
              exact List.any_eq_true.2 ⟨r, List.mem_of_getElem? (i := j) (by rw [List.getElem?_take_of_lt hjk]; exact HJ.out.2.2.1), hcv⟩
            have hds : deadsTo l (k + 1) = deadsTo l k ++ [k] := by rw [deadsTo_succ, if_pos hany]
            have HD := Lib.hid (And.intro row4 (And.intro hds (And.intro HB4.out.2 HR.out.2.2.1)))
            have hdl := deadsTo_len l k
            have hws := hBk4.size
            obtain ⟨hi, hz0, hz1, hz2⟩ := HI.out
            have hwk : w1.heap.size ≤ w4.heap.size := HB4.out.2.size
            clear row4 hds hany hcv hBk4
            go_wp2_with (first | (at_builtin; refine wpList_append_own _ rfl (.tmp 36) (.tmp 38) 36 rfl w1.heap.size 3 ii (.int .i64 0) 1 8 Try.underlying36 hi hz0 hz1 hz2 rfl (by decide) (.slice v2a (deadsTo l k).length v2c) (deadsTo l k).length (iCells (deadsTo l k)) rfl (HD.out.1.alloc _) ⟨w4.heap.size, 0, none⟩ 1 1 [.int .i64 (k : Nat)] rfl rfl (one_new _ _ _) (by intro u hu; simp at hu; subst hu; rfl) (by unfold maxLen; omega) (by omega) (by simp; omega) ?_))
            intro v' w5 ho hg _
            have hO5 : Only (fun q => (Value.slice v2a (deadsTo l k).length v2c).ownBlock = some q) w4 w5 := ((Only.refl _ _).alloc _).grown hg (fun q hq _ => hq)
            have hB5 := HD.out.2.2.1.trans (hO5.below (B := w1.heap.size) (HD.out.2.2.1.size) (fun q hq e => by have := HD.out.2.2.2 q e; omega))
            have hvb5 : ∀ q, v'.ownBlock = some q → w1.heap.size ≤ q := own_ge ho
            have HN : Hid (DRel w w1 l (.int .i64 (k + 1 : Nat)) v' w5) := ⟨k + 1, rfl, by omega, by rw [HD.out.2.1]; simpa [iCells] using ho, hB5, hvb5⟩
            clear ho hg hO5 hB5 hvb5 HD hi hz0 hz1 hz2
            go_wp2_with fail
            go_roundw
            case rel => exact HN.out
            case measure => simp [intOf]; omega
          | false =>
            have HN : Hid (ERel w2 l s k (.slice v2a (deadsTo l k).length v2c) (.int .i64 (j + 1 : Nat)) (.slice v2a (deadsTo l k).length v2c) w4) := ⟨j + 1, rfl, hjk, rfl, HB4.out.1, fun q r' hq hr' => by
              rcases Nat.lt_or_ge q j with h | h
              · exact HJ.out.2.1 q r' h hr'
              · rw [show q = j by omega, HJ.out.2.2.1] at hr'
                injection hr' with hr'
                rw [← hr']; exact hcv⟩
            clear hcv HB4
            go_wp2_with fail
            go_roundw
            case rel => exact HN.out
            case measure => simp [intOf]; omega
        · obtain rfl : j = k := by omega
          have hany : ((l.take j).any fun r => match l[j]? with | some s => r.covers s | none => false) = false := by
            rw [HR.out.2.2.2.1]
            refine List.any_eq_false.2 (fun r hr => ?_)
            obtain ⟨q, hq⟩ := List.mem_iff_getElem?.1 hr
            have hql : q < j := by
              have := (List.getElem?_eq_some_iff.1 hq).1
              rw [List.length_take] at this
              omega
            rw [List.getElem?_take_of_lt hql] at hq
            simpa using hno q r hql hq
          have hds : deadsTo l (j + 1) = deadsTo l j := by rw [deadsTo_succ, if_neg (by rw [hany]; decide)]; simp
          have hBk4 : Below wk.heap.size wk wr := by rw [HSB.out]; exact HB2.out.1.trans (hBj.mono (by omega))
          have row4 := own_only HR.out.1 (Below.only hBk4 (fun _ => False)) (fun _ _ h => h)
          have HN : Hid (DRel w w1 l (.int .i64 (j + 1 : Nat)) (.slice v2a (deadsTo l j).length v2c) wr) := ⟨j + 1, rfl, by omega, by rw [hds]; exact row4, HB2.out.2.trans (hBj.mono HB2.out.2.size), HR.out.2.2.1⟩
          clear hany hds hBk4 row4 hno hBj
          go_wp2_with fail
          go_roundw
          case rel => exact HN.out
          case measure => simp [intOf]; omega
    · obtain rfl : k = l.length := by omega
      have HF := Lib.hid (And.intro (own_raise (base' := w.heap.size) hrow (fun q hq => Nat.le_trans H1.out.2.2.2.size (own_ge hrow q hq))) (H1.out.2.2.2.trans (hB.mono H1.out.2.2.2.size)))
      clear hrow hB hvb
      go_wp2_with fail
      dsimp only [Exit.noGoto]
      go_ret
      exact ⟨_, rfl, HF.out.1, HF.out.2⟩
end Go.Proofs.Ytcbkcalemfminaa

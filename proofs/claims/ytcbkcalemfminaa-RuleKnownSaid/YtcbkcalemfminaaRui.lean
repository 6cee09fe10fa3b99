/- Addresses, prefixes, rules, keys that are handed in, opened. -/
import Derived.Deep.Slices
import Derived.Deep.Fields
import Derived.ChangeSame
import Derived.OpenShut
import Derived.Test.YtcbkcalemfminaaRub
namespace Go.Proofs.Ytcbkcalemfminaa
open Go.ChangeShapes Go.WideShapes Go.Deep Go.RowKit

theorem list_choose {α : Type} {Q : Nat → α → Prop} : ∀ n : Nat, (∀ i, i < n → ∃ x, Q i x) → ∃ l : List α, l.length = n ∧ ∀ i x, l[i]? = some x → Q i x
  | 0, _ => ⟨[], rfl, by simp⟩
  | n + 1, h => by
    obtain ⟨l, hl, hq⟩ := list_choose n (fun i hi => h i (by omega))
    obtain ⟨x, hx⟩ := h n (by omega)
    refine ⟨l ++ [x], by simp [hl], fun i y hy => ?_⟩
    by_cases hi : i < n
    · rw [List.getElem?_append_left (by omega)] at hy
      exact hq i y hy
    · have hin : i = n := by
        have := (List.getElem?_eq_some_iff.1 hy).1
        simp [hl] at this
        omega
      subst hin
      rw [List.getElem?_append_right (by omega), hl] at hy
      simp at hy
      subst hy
      exact hx

theorem cOf_u8 : Try.prog.cellsOf 5 = 1 := by kernel_rfl
theorem cOf_bs : Try.prog.cellsOf 23 = 16 := by kernel_rfl
theorem cOf_ad : Try.prog.cellsOf 25 = 17 := by kernel_rfl
theorem cOf_pf : Try.prog.cellsOf 39 = 18 := by kernel_rfl
theorem cOf_ru : Try.prog.cellsOf 43 = 44 := by kernel_rfl
theorem cOf_ky : Try.prog.cellsOf 28 = 37 := by kernel_rfl
theorem cOf_bool : Try.prog.cellsOf 4 = 1 := by kernel_rfl
theorem cOf_int : Try.prog.cellsOf 3 = 1 := by kernel_rfl
theorem cOf_u16 : Try.prog.cellsOf 26 = 1 := by kernel_rfl
theorem cOf_po : Try.prog.cellsOf 41 = 2 := by kernel_rfl

theorem dsplit (cs : List Value) (a b : Nat) : cs.drop a = (cs.drop a).take b ++ cs.drop (a + b) := by
  rw [← List.drop_drop, List.take_append_drop]

section
variable {H : Type} {enc : TypeId × Value → H} {w : World} {base : Nat} {spare : Nat → Bool} {held : Bool} {fuel : Nat} {cs : List Value} {x : DataW H × List MemPlace}

theorem open_bs (h : DataW.trod enc Try.prog w base spare held fuel 23 cs = some x) : ∃ bs : List Nat, cs = u8s bs ∧ bs.length = 16 ∧ ∀ x ∈ bs, x < 256 := by
  obtain ⟨xs, m, _, _, hl, hxl, hi⟩ := DataW.trod_array Try.underlying23 h
  rw [cOf_bs] at hl
  obtain ⟨bs, hbl, hb⟩ := list_choose (Q := fun i (n : Nat) => cs[i]? = some (.int .u8 (n : Nat)) ∧ n < 256) 16 (fun i h16 => by
    have h1 := hi i h16
    rw [cOf_u8, Nat.mul_one, List.getElem?_eq_getElem (by omega)] at h1
    obtain ⟨n, e, _, wf⟩ := DataW.trod_int Try.underlying5 h1
    have hb := bounds_u8 wf
    obtain ⟨k, rfl⟩ := Int.eq_ofNat_of_zero_le hb.1
    refine ⟨k, ?_, by omega⟩
    have : (List.take 1 (List.drop i cs))[0]? = some (.int .u8 (k : Nat)) := by rw [e]; rfl
    rw [List.getElem?_take_of_lt (by decide), List.getElem?_drop] at this
    simpa using this)
  refine ⟨bs, ?_, hbl, fun x hx => ?_⟩
  · apply List.ext_getElem?
    intro i
    by_cases h16 : i < 16
    · rw [(hb i bs[i] (List.getElem?_eq_getElem (by omega))).1]
      simp [u8s, List.getElem?_eq_getElem (show i < bs.length by omega)]
    · rw [List.getElem?_eq_none (by omega), List.getElem?_eq_none (by rw [u8s_len]; omega)]
  · obtain ⟨i, hix⟩ := List.mem_iff_getElem?.1 hx
    exact (hb i x hix).2

theorem open_ad (h : DataW.trod enc Try.prog w base spare held fuel 25 cs = some x) : ∃ a : Ad, cs = a.cs ∧ a.Ok := by
  obtain ⟨y0, y1, n, _, hl, h0, h1⟩ := trod_struct2 Try.underlying25 h
  dsimp only at h0 h1
  rw [cOf_bool] at h0
  rw [cOf_bs] at h1
  rw [cOf_ad] at hl
  obtain ⟨s, e0, _⟩ := DataW.trod_bool Try.underlying4 h0
  obtain ⟨bs, e1, hb⟩ := open_bs h1
  refine ⟨⟨s, bs⟩, ?_, hb⟩
  have := dsplit cs 0 1
  rw [List.drop_zero] at this
  rw [this, dsplit cs (0 + 1) 16, show cs.drop (0 + 1 + 16) = [] from List.drop_eq_nil_of_le (by omega)]
  rw [List.drop_zero] at e0
  simp only [Nat.zero_add] at e1 ⊢
  rw [e0, e1, List.append_nil]
  rfl

theorem open_pf (h : DataW.trod enc Try.prog w base spare held fuel 39 cs = some x) : ∃ p : Pf, cs = p.cs ∧ p.a.Ok := by
  obtain ⟨y0, y1, n, _, hl, h0, h1⟩ := trod_struct2 Try.underlying39 h
  dsimp only at h0 h1
  rw [cOf_ad] at h0
  rw [cOf_int] at h1
  rw [cOf_pf] at hl
  obtain ⟨a, e0, ha⟩ := open_ad h0
  obtain ⟨l, e1, _⟩ := DataW.trod_int Try.underlying3 h1
  refine ⟨⟨a, l⟩, ?_, ha⟩
  have := dsplit cs 0 17
  rw [List.drop_zero] at this
  rw [this, dsplit cs (0 + 17) 1, show cs.drop (0 + 17 + 1) = [] from List.drop_eq_nil_of_le (by omega)]
  rw [List.drop_zero] at e0
  simp only [Nat.zero_add] at e1 ⊢
  rw [e0, e1, List.append_nil]
  rfl

theorem open_ky' (h : DataW.trod enc Try.prog w base spare held fuel 28 cs = some x) : ∃ k : Ky, cs = k.cs ∧ k.Ok := by
  obtain ⟨xs, n, _, _, hl, hxl, hf⟩ := DataW.trod_struct Try.underlying28 h
  have g0 : DataW.trod enc Try.prog w base spare held n 25 ((cs.drop 0).take (Try.prog.cellsOf 25)) = some _ := (hf 0 _ rfl).trans (List.getElem?_eq_getElem (by rw [hxl]; decide))
  have g1 : DataW.trod enc Try.prog w base spare held n 25 ((cs.drop 17).take (Try.prog.cellsOf 25)) = some _ := (hf 1 _ rfl).trans (List.getElem?_eq_getElem (by rw [hxl]; decide))
  have g2 : DataW.trod enc Try.prog w base spare held n 5 ((cs.drop 34).take (Try.prog.cellsOf 5)) = some _ := (hf 2 _ rfl).trans (List.getElem?_eq_getElem (by rw [hxl]; decide))
  have g3 : DataW.trod enc Try.prog w base spare held n 26 ((cs.drop 35).take (Try.prog.cellsOf 26)) = some _ := (hf 3 _ rfl).trans (List.getElem?_eq_getElem (by rw [hxl]; decide))
  have g4 : DataW.trod enc Try.prog w base spare held n 26 ((cs.drop 36).take (Try.prog.cellsOf 26)) = some _ := (hf 4 _ rfl).trans (List.getElem?_eq_getElem (by rw [hxl]; decide))
  rw [cOf_ad] at g0 g1
  rw [cOf_u8] at g2
  rw [cOf_u16] at g3 g4
  rw [cOf_ky] at hl
  obtain ⟨a, e0, ha⟩ := open_ad g0
  obtain ⟨b, e1, hb⟩ := open_ad g1
  obtain ⟨p, e2, _, w2⟩ := DataW.trod_int Try.underlying5 g2
  obtain ⟨s, e3, _, w3⟩ := DataW.trod_int Try.underlying26 g3
  obtain ⟨d, e4, _, w4⟩ := DataW.trod_int Try.underlying26 g4
  have b2 := bounds_u8 w2
  have b3 := bounds_u16 w3
  have b4 := bounds_u16 w4
  obtain ⟨p, rfl⟩ := Int.eq_ofNat_of_zero_le b2.1
  obtain ⟨s, rfl⟩ := Int.eq_ofNat_of_zero_le b3.1
  obtain ⟨d, rfl⟩ := Int.eq_ofNat_of_zero_le b4.1
  refine ⟨⟨a, b, p, s, d⟩, ?_, ⟨ha, hb, by show p < 256; omega⟩⟩
  have := dsplit cs 0 17
  rw [List.drop_zero] at this
  rw [this, dsplit cs (0 + 17) 17, dsplit cs (0 + 17 + 17) 1, dsplit cs (0 + 17 + 17 + 1) 1, dsplit cs (0 + 17 + 17 + 1 + 1) 1, show cs.drop (0 + 17 + 17 + 1 + 1 + 1) = [] from List.drop_eq_nil_of_le (by omega)]
  rw [List.drop_zero] at e0
  simp only [Nat.zero_add, Nat.reduceAdd] at e1 e2 e3 e4 ⊢
  rw [e0, e1, e2, e3, e4]
  simp [Ky.cs]
end

set_option maxRecDepth 100000 in
theorem open_key {H : Type} {enc : TypeId × Value → H} {w : World} {base : Nat} {spare : Nat → Bool} {held : Bool} {r : Reach} {b0 : Nat} {v : Value} {d : DataW H} {p : List MemPlace} (hv : Value.okWide Try.prog w r b0 28 v) (h : DataW.Trod enc Try.prog w base spare held 28 v d p) :
    ∃ k : Ky, v = .agg k.arr ∧ k.Ok := by
  obtain ⟨cs, rfl, hsz⟩ := okWide_struct Try.underlying28 hv
  obtain ⟨fuel, hf⟩ := h
  obtain ⟨k, e, hk⟩ := open_ky' (by simpa [Value.cells] using hf)
  refine ⟨k, ?_, hk⟩
  unfold Ky.arr
  rw [← e]
end Go.Proofs.Ytcbkcalemfminaa

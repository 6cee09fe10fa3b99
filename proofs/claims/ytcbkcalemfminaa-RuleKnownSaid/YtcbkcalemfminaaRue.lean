/- Which, Class: walked. -/
import Derived.Test.YtcbkcalemfminaaRud
import Derived.Scope
namespace Go.Proofs.Ytcbkcalemfminaa
open Go.RowKit
/-- A store of a whole row of cells, as the walk is to meet it. -/
@[irreducible] def storeRow (t : TypeId) (p v : Value) : Sem Unit := Instr.storeAt t p v
theorem store_ru (p v : Value) : Instr.storeAt 43 p v = storeRow 43 p v := by unfold storeRow; rfl
attribute [local go_sem ↓] load_ad load_pf load_ru load_ky load_bs build_pf build_ru build_cl store_ru

theorem store_at {o : Ru} (ho : o.Ok) {w : World} {g : Nat} (h : w.heap[g]? = some (.cells Ru.zero.arr 43 (0, 0))) : (storeRow 43 (.pointer (some ⟨g, 0, none⟩)) (.agg o.arr)).run Try.prog w = .ok () (w.setRow g o.arr) := by
  unfold storeRow
  have h := run_storeVar_row (P := Try.prog) w g 43 43 Ru.zero.arr o.arr h (by rw [Ru.arr_size ho]; kernel_rfl) (by rw [Ru.arr_size ho]; rfl) o.all
  simp only [Instr.storeAt, Instr.sureAddr, Sem.run_bind, Sem.run_pure, Result.andThen_ok, h]
theorem store_over {r o : Ru} (hr : r.Ok) (ho : o.Ok) {w : World} {g : Nat} (h : w.heap[g]? = some (.cells o.arr 43 (0, 0))) : (storeRow 43 (.pointer (some ⟨g, 0, none⟩)) (.agg r.arr)).run Try.prog w = .ok () (w.setRow g r.arr) := by
  unfold storeRow
  have h := run_storeVar_row (P := Try.prog) w g 43 43 o.arr r.arr h (by rw [Ru.arr_size hr]; kernel_rfl) (by rw [Ru.arr_size hr, Ru.arr_size ho]) r.all
  simp only [Instr.storeAt, Instr.sureAddr, Sem.run_bind, Sem.run_pure, Result.andThen_ok, h]
theorem store_new {o : Ru} (ho : o.Ok) (w : World) : (storeRow 43 (.pointer (some ⟨w.heap.size, 0, none⟩)) (.agg o.arr)).run Try.prog (w.alloc (.cells Ru.zero.arr 43)) = .ok () ((w.alloc (.cells Ru.zero.arr 43)).setRow w.heap.size o.arr) := by
  unfold storeRow
  have h := run_storeVar_row (P := Try.prog) (w.alloc (.cells Ru.zero.arr 43)) w.heap.size 43 43 Ru.zero.arr o.arr (alloc_block_new _ _) (by rw [Ru.arr_size ho]; kernel_rfl) (by rw [Ru.arr_size ho]; rfl) o.all
  simp only [Instr.storeAt, Instr.sureAddr, Sem.run_bind, Sem.run_pure, Result.andThen_ok, h]
section
variable {w : World} {p : Nat} {va vh : Value} {o : Ru}
theorem cl0 (h : w.heap[p]? = some (.cells (clArr va o vh) 61 (0, 0))) : w.cell? ⟨p, 0, none⟩ = some va := (cell_of_block h 0).trans rfl
theorem clO (h : w.heap[p]? = some (.cells (clArr va o vh) 61 (0, 0))) : w.rangeAt p 1 o.cs := by
  have := range_part (xs := [va]) (ys := o.cs) (zs := [vh]) (n := 1) (by simpa [clArr] using range_block h) rfl
  simpa using this
theorem clH (ho : o.Ok) (h : w.heap[p]? = some (.cells (clArr va o vh) 61 (0, 0))) : w.cell? ⟨p, 45, none⟩ = some vh := by
  have := range_part (xs := va :: o.cs) (ys := [vh]) (zs := []) (n := 45) (by simpa [clArr] using range_block h) (by simp [ho.len])
  simpa using this 0 vh rfl
end

set_option maxRecDepth 100000 in
theorem which_is {w : World} {B T p : Nat} {o : Ru} {l : List Ru} {hs : List Nat} (hC : IsC w B T p o l hs) {k : Ky} (hk : k.Ok) (hlen : l.length ≤ 1000000) :
    Calls Try.prog 13 #[.pointer (some ⟨p, 0, none⟩), .agg k.arr] w fun e w' => ∃ n : Int, e = .returned (.int .i64 n) ∧ FirstOf (fun r => r.fits k) l n ∧ Below w.heap.size w w' := by
  have hmf : ∀ (fn : Fn) (first cap : Array Value) (w : World), (Instr.makeFunc fn first cap).run Try.prog w = .ok (.func fn first cap) w := fun fn first cap w => by simp [Instr.makeFunc]
  have hB : Below w.heap.size w (w.alloc (.cells k.arr 28)) := (Below.refl _ _).alloc (Nat.le_refl _) _
  have K1 : KyAt (w.alloc (.cells k.arr 28)) w.heap.size k := ⟨hk, by simp, range_block (alloc_block_new w (.cells k.arr 28))⟩
  obtain ⟨va, vh, hb, hv, _⟩ := (hC.below hB).ex
  obtain ⟨la, lc, rfl⟩ := own_shape hv
  have c0 := cl0 hb
  have HI := Lib.hid (idx_which (.pointer (some ⟨w.heap.size, 0, none⟩)) (fun r => r.fits k) (hv.rules hC.lok) hlen (fun r hr w' hB' => which1_is hr (K1.below hB')))
  have HBB := Lib.hid hB
  clear hv hb K1 hC hB
  go_enter Try.func13, Try.ntmps13
  go_wp2_with fail
  refine HI.out.mono ?_
  rintro e w2 ⟨n, rfl, hf, hB2⟩
  go_wp2_with fail
  go_ret
  exact ⟨n, rfl, hf, HBB.out.trans (hB2.mono (by simp))⟩

theorem blk_ne {w : World} {a b : Nat} {c d : Array Value} {s t : TypeId} {f g : Nat × Nat} (ha : w.heap[a]? = some (.cells c s f)) (hb : w.heap[b]? = some (.cells d t g)) (hne : s ≠ t) : a ≠ b := by
  intro e
  subst e
  rw [ha] at hb
  injection hb with hb
  injection hb with _ e _
  exact hne e
theorem row_type {w : World} {base : Nat} {e : TypeId} {size : Nat} {v : Value} {n : Nat} {xs : List Value} (h : w.ownsRow base e size v n xs) : ∀ k, v.ownBlock = some k → ∃ c, w.heap[k]? = some (.cells c e (0, 0)) := by
  intro k hk
  rcases h.2 with ⟨hv, _⟩ | ⟨g, cap, cur, hv, _, hh, _⟩
  · rw [hv] at hk; cases hk
  · rw [hv] at hk; injection hk with hk; subst hk; exact ⟨_, hh⟩

/-- One count set anew. -/
theorem setC {w : World} {B T p h cap : Nat} {o : Ru} {l : List Ru} {hs : List Nat} {va : Value} {cur : Array Value} (hbp : B ≤ p ∧ p < T) (htop : T ≤ w.heap.size) (ho : o.Ok) (hl : ∀ r ∈ l, r.Ok) (hlen : hs.length = l.length + 1)
    (hb : w.heap[p]? = some (.cells (clArr va o (.slice (some ⟨h, 0, none⟩) hs.length cap)) 61 (0, 0))) (hv : OwnRules w B va l) (hva : ∀ k, va.ownBlock = some k → k < T) (hh : w.heap[h]? = some (.cells cur 62 (0, 0))) (hhB : B ≤ h) (hhT : h < T)
    (hc1 : hs.length ≤ cap) (hc2 : cap ≤ maxLen) (hc3 : cur.size = cap) (hc4 : cur.toList.take hs.length = hCells hs) (i x : Nat) :
    IsC (w.setCell ⟨h, i, none⟩ (.int .u64 (x : Nat))) B T p o l (hs.set i x) := by
  have hO : Only (fun k => k = h) w (w.setCell ⟨h, i, none⟩ (.int .u64 (x : Nat))) := Only.setCell (S := fun k => k = h) (p := ⟨h, i, none⟩) (Only.refl _ w) (fun _ => rfl) _
  have hne : p ≠ h := blk_ne hb hh (by decide)
  refine ⟨hbp, by simpa using htop, ⟨va, .slice (some ⟨h, 0, none⟩) hs.length cap, hO.keep hb hne, own_only hv hO (fun k hk e => ?_), ⟨by simp [hCells], .inr ⟨h, cap, _, by simp, hhB, setCell_block hh i _, by simpa using hc1, hc2, by simp [hc3], ?_⟩⟩, hva, fun k hk => ?_⟩, ho, hl, by simpa using hlen⟩
  · obtain ⟨c, hc⟩ := row_type hv k hk
    exact blk_ne hc hh (by decide) e
  · have : (hCells (hs.set i x)) = (hCells hs).set i (.int .u64 (x : Nat)) := by simp [hCells, List.map_set]
    rw [this, ← hc4]
    simp [List.take_set]
  · injection hk with hk
    subst hk
    exact hhT

/-- What a packet is told by: the first rule that fits, or what is for all others. -/
def told (l : List Ru) (o : Ru) (k : Ky) : Ru := (l.find? (fun r => r.fits k)).getD o
/-- Where it is counted. -/
def place (l : List Ru) (k : Ky) : Nat := (l.findIdx? (fun r => r.fits k)).getD l.length
def bump (hs : List Nat) (i : Nat) : List Nat := if hs.getD i 0 < 18446744073709551615 then hs.set i (hs.getD i 0 + 1) else hs
def toldRes (r : Ru) : Ending := .returned (.tuple (if r.deny = true then #[.int .i64 0, .int .i64 90] else #[.int .i64 r.cls, .int .i64 0]))

theorem first_told {l : List Ru} {o : Ru} {k : Ky} {n : Int} (h : FirstOf (fun r => r.fits k) l n) :
    (∃ (i : Nat), n = i ∧ i < l.length ∧ l[i]? = some (told l o k) ∧ place l k = i) ∨ (n = -1 ∧ told l o k = o ∧ place l k = l.length) := by
  rcases h with ⟨i, r, rfl, hi, hp, hj⟩ | ⟨rfl, hn⟩
  · left
    have hil := (List.getElem?_eq_some_iff.1 hi).1
    have hfi : l.findIdx? (fun r => r.fits k) = some i := by
      rw [List.findIdx?_eq_some_iff_getElem]
      refine ⟨hil, ?_, fun j hji => ?_⟩
      · rw [(List.getElem?_eq_some_iff.1 hi).2]; exact hp
      · have := hj j l[j] hji (List.getElem?_eq_getElem (by omega))
        simpa using this
    have hf : l.find? (fun r => r.fits k) = some r := by
      rw [List.find?_eq_some_iff_getElem]
      exact ⟨hp, i, hil, (List.getElem?_eq_some_iff.1 hi).2, fun j hji => by
        have := hj j l[j] hji (List.getElem?_eq_getElem (by omega))
        simpa using this⟩
    exact ⟨i, rfl, hil, by rw [told, hf]; exact hi, by rw [place, hfi]; rfl⟩
  · right
    have hf : l.find? (fun r => r.fits k) = none := List.find?_eq_none.2 (fun r hr => by simpa using hn r hr)
    have hfi : l.findIdx? (fun r => r.fits k) = none := List.findIdx?_eq_none_iff.2 (fun r hr => hn r hr)
    exact ⟨rfl, by rw [told, hf]; rfl, by rw [place, hfi]; rfl⟩

set_option maxRecDepth 100000 in
theorem class_nil {k : Ky} (w : World) :
    Calls Try.prog 8 #[.pointer none, .agg k.arr] w fun e w' => e = .returned (.tuple #[.int .i64 0, .int .i64 1]) ∧ Below w.heap.size w w' := by
  go_enter Try.func8, Try.ntmps8
  go_wp2_with fail
  exact bodyPost_ret (v := .tuple #[.int .i64 0, .int .i64 1]) (by simp [results, Try.results8, go_sem]) rfl ⟨rfl, (Below.refl _ _).alloc (Nat.le_refl _) _⟩
set_option maxRecDepth 100000 in
theorem which_nil {k : Ky} (w : World) :
    Calls Try.prog 13 #[.pointer none, .agg k.arr] w fun e w' => e = .returned (.int .i64 (-1)) ∧ Below w.heap.size w w' := by
  go_enter Try.func13, Try.ntmps13
  go_wp2_with fail
  go_ret
  exact ⟨rfl, (Below.refl _ _).alloc (Nat.le_refl _) _⟩
set_option maxRecDepth 100000 in
theorem hits_nil (w : World) :
    Calls Try.prog 14 #[.pointer none] w fun e w' => e = .returned (.slice none 0 0) ∧ Below w.heap.size w w' := by
  go_enter Try.func14, Try.ntmps14
  go_wp2_with fail
  go_ret
  exact ⟨rfl, Below.refl _ _⟩
set_option maxRecDepth 100000 in
theorem dead_nil (w : World) :
    Calls Try.prog 9 #[.pointer none] w fun e w' => e = .returned (.slice none 0 0) ∧ Below w.heap.size w w' := by
  go_enter Try.func9, Try.ntmps9
  go_wp2_with fail
  refine wp_scope_straight ?_
  go_wp2_with fail
  dsimp only [Exit.noGoto]
  go_ret
  exact ⟨rfl, Below.refl _ _⟩

set_option maxRecDepth 100000 in
set_option maxHeartbeats 2000000 in
theorem class_is {w : World} {B T p : Nat} {o : Ru} {l : List Ru} {hs : List Nat} (hC : IsC w B T p o l hs) {k : Ky} (hk : k.Ok) (hlen : l.length ≤ 1000000) (hBT : B ≤ w.heap.size) :
    Calls Try.prog 8 #[.pointer (some ⟨p, 0, none⟩), .agg k.arr] w fun e w' => e = toldRes (told l o k) ∧ IsC w' B T p o l (bump hs (place l k)) ∧ Only (fun j => B ≤ j ∧ j < T) w w' := by
  go_enter Try.func8, Try.ntmps8
  go_upto_region 3 with (fail)
  have hB : Below w.heap.size w (w.alloc (.cells k.arr 28)) := (Below.refl _ _).alloc (Nat.le_refl _) _
  have C1 := hC.below hB
  have g0 := alloc_block_new w (.cells k.arr 28)
  generalize w.alloc (.cells k.arr 28) = w1 at *
  have hl := lt_of_obj g0
  have hr1 : w1.rangeAt w.heap.size 0 k.cs := range_block g0
  have hpb := hC.bp
  have hT := hC.top
  have hook := hC.ook
  have HC := Lib.hid (And.intro hC (And.intro hB C1))
  obtain ⟨va, vh, hb, hv, hh, hva, hvh⟩ := C1.ex
  have hpl := lt_of_obj hb
  have q1 := clO hb
  generalize hbb : w.heap.size = b at *
  have HV := Lib.hid (And.intro hb (And.intro hv (And.intro hh (And.intro hva hvh))))
  clear hb hv hh hva hvh g0 hB C1 hC
  have HWH : Hid (∀ w', Below w1.heap.size w1 w' → Calls Try.prog 13 #[.pointer (some ⟨p, 0, none⟩), .agg k.arr] w' fun e w'' => ∃ n : Int, e = .returned (.int .i64 n) ∧ FirstOf (fun r => r.fits k) l n ∧ Below w'.heap.size w' w'') := fun w' hB' => which_is (HC.out.2.2.below hB') hk hlen
  have hL1 : ∀ w' : World, w'.rangeAt b 0 k.cs → (loadRow 28 (.pointer (some ⟨b, 0, none⟩))).run Try.prog w' = .ok (.agg k.arr) w' := fun w' h => row_ky hk h
  have hL2 : ∀ w' : World, w'.rangeAt p 1 o.cs → (loadRow 43 (.pointer (some ⟨p, 1, none⟩))).run Try.prog w' = .ok (.agg o.arr) w' := fun w' h => row_ru hook h
  have HR1 := Lib.hid (And.intro hr1 q1)
  clear hr1 q1
  have hst := store_new hook
  have hza := Ru.zero_arr
  go_region_held3 (fun w' => w'.rangeAt b 0 k.cs ∧ w'.rangeAt p 1 o.cs) (constructor <;> first | assumption | exact HR1.out.1 | exact HR1.out.2 | exact range_alloc hr3 hb3 _ | exact range_alloc hp3 hpl3 _ | exact range_alloc HR1.out.1 hl _ | exact range_alloc HR1.out.2 hpl _ | exact range_setRow (range_alloc hr3 hb3 _) (by omega) | exact range_setRow (range_alloc hp3 hpl3 _) (by omega) | exact range_setRow hr3 (by omega) | exact range_setRow hp3 (by omega))
    (first
      | (go_at_call 13; refine Calls.mono (HWH.out _ ?_) ?_
         · first | exact (Below.refl _ _).drew | exact ((Below.refl _ _).alloc (Nat.le_refl _) _).drew
         rintro e w3 ⟨n, rfl, hf, hB3⟩
         have hB3' : Below w1.heap.size w1 w3 := by first | exact (Below.refl w1.heap.size w1).drew.trans hB3 | exact ((Below.refl w1.heap.size w1).alloc (Nat.le_refl _) (.cells Ru.zero.arr 43)).drew.trans (hB3.mono (by simp))
         first
           | (have hz3 : w3.heap[w1.heap.size]? = some (.cells Ru.zero.arr 43 (0, 0)) := (hB3.block w1.heap.size (by simp)).trans (alloc_block_new w1 (.cells Ru.zero.arr 43))
              have hst3 := store_at hook hz3
              have HZ3 := Lib.hid hz3
              clear hz3)
           | skip
         have hs3 := hB3'.size
         have hr3 := range_below HR1.out.1 hl hB3'; have hp3 := range_below HR1.out.2 hpl hB3'
         have hb3 : b < w3.heap.size := by omega
         have hpl3 : p < w3.heap.size := by omega
         have HB3 := Lib.hid hB3'; have HF := Lib.hid hf; clear hB3 hB3' hf hs3))
  all_goals
    have hBw3 := HC.out.2.1.trans (HB3.out.mono (by omega))
    have hs13 := HB3.out.size
    first
      | (with_reducible show Exit.then _ _ Exit.normal _ ((w3.alloc (.cells Ru.zero.arr 43)).setRow _ _)
         have hS4 := stored_setRow (cs := o.arr) (alloc_block_new w3 (.cells Ru.zero.arr 43))
         have hg4 := hS4.blk
         have hB4 : Below b w ((w3.alloc (.cells Ru.zero.arr 43)).setRow w3.heap.size o.arr) := hBw3.trans ((((Below.refl w3.heap.size w3).alloc (Nat.le_refl _) (.cells Ru.zero.arr 43)).mono (by omega)).trans (hS4.only.below (by simp; omega) (fun k hk e => by omega)))
         have hgb : b ≤ w3.heap.size := by omega
         generalize (w3.alloc (.cells Ru.zero.arr 43)).setRow w3.heap.size o.arr = w4 at *
         generalize w3.heap.size = g at *)
      | (have hS4 := stored_setRow (cs := o.arr) HZ3.out
         have hg4 := hS4.blk
         have hB4 : Below b w (w3.setRow w1.heap.size o.arr) := hBw3.trans (hS4.only.below (by omega) (fun k hk e => by omega))
         have hgb : b ≤ w1.heap.size := by omega
         clear hst3 HZ3
         generalize w3.setRow w1.heap.size o.arr = w4 at *
         generalize w1.heap.size = g at *)
    have HBW := Lib.hid hbb
    have H4 := Lib.hid (And.intro hg4 hB4)
    clear hr3 hp3 hb3 hpl3 hL1 hL2 hst hza hS4 hg4 hB4 hBw3 hs13 HB3 HR1 HWH HV hl
    have C4 := HC.out.1.below (by rw [HBW.out]; exact H4.out.2)
    have hTg : T ≤ g := by omega
    obtain ⟨va, vh, hb, hv, _⟩ := C4.ex
    obtain ⟨ra, rc, rfl⟩ := own_shape hv
    have hRl := hv.rules C4.lok
    have c0 := cl0 hb
    rcases first_told (o := o) HF.out with ⟨i, rfl, hil, hti, hpl⟩ | ⟨rfl, hto, hpl⟩
    · as_aux_lemma =>
      obtain ⟨_, _, e1, _, hrow⟩ := hRl
      injection e1 with e1 _ _
      subst e1
      obtain ⟨rb, ro, rfl, hrb, hA⟩ := hrow (by omega)
      obtain ⟨hok, hrg⟩ := hA i _ hti
      have lR := row_ru hok hrg
      obtain ⟨RT, hRT⟩ : ∃ R, told l o k = R := ⟨_, rfl⟩
      rw [hRT] at hok lR
      have hst := store_over hok hook H4.out.1
      have hS5 := stored_setRow (cs := RT.arr) H4.out.1
      have HRT := Lib.hid hRT
      have HPL := Lib.hid hpl
      clear hRT hpl hti hrg
      have hii : (i : Int) < (l.length : Int) := by omega
      go_upto_region 7 with (fail)
      generalize w4.setRow g RT.arr = w5 at *
      have C5 := C4.only hS5.only (fun j hj hj2 e => by omega)
      have hOo : Only (fun j => B ≤ j ∧ j < T) w w5 := Below.only (by rw [HBW.out]; exact H4.out.2.trans (hS5.only.below (B := b) (by have := H4.out.2.size; omega) (fun k hk e => by omega))) _
      have HC5 := Lib.hid (And.intro C5 (And.intro hS5.blk (And.intro hOo hok)))
      clear hst lR hA hrb c0 hb hv C4 hS5 C5 hOo H4 HF HC
      have C5 := HC5.out.1
      obtain ⟨va, vh, hb, hv, hh, hva, hvh⟩ := C5.ex
      have hlen5 := C5.hlen
      have hpos : i < hs.length := by omega
      rcases hh.2 with ⟨_, h0⟩ | ⟨h, cap, cur, hvv, hhB, hhb, hc1, hc2, hc3, hc4⟩
      · omega
      · subst hvv
        obtain ⟨x, hx⟩ : ∃ x, hs[i]? = some x := ⟨_, List.getElem?_eq_getElem hpos⟩
        have hhT : h < T := hvh h rfl
        have hci : cur[i]? = some (.int .u64 (x : Nat)) := by
          have h1 : (hCells hs)[i]? = some (.int .u64 (x : Nat)) := by simp [hCells, hx]
          rw [← hc4, List.getElem?_take_of_lt (by omega)] at h1
          simpa using h1
        have y0 : w5.cell? ⟨h, i, none⟩ = some (.int .u64 (x : Nat)) := (cell_of_block hhb _).trans hci
        have y1 : w5.frozen? ⟨h, i, none⟩ = false := free_of_block hhb _
        have c45 := clH hook hb
        have d42 := Ru.c42 HC5.out.2.2.2 (range_block HC5.out.2.1)
        have d43 := Ru.c43 HC5.out.2.2.2 (range_block HC5.out.2.1)
        have hgh : ¬ g = h := by omega
        have hgh' : ¬ h = g := by omega
        have HS := Lib.hid (fun (z : Nat) => setC (i := i) (x := z) hpb C5.top hook C5.lok hlen5 hb hv hva hhb hhB hhT hc1 hc2 (by rw [hc3]; omega) (by simpa using hc4))
        have HBu : Hid (bump hs (place l k) = if x < 18446744073709551615 then hs.set i (x + 1) else hs) := by
          show bump hs (place l k) = _
          rw [HPL.out, bump, List.getD, hx]
          rfl
        have HBh := Lib.hid (And.intro hhB hhT)
        have HOo := Lib.hid HC5.out.2.2.1
        clear hb hv hh hva hvh hhb hc1 hc2 hc3 hc4 hci hx C5 hlen5
        by_cases hmx : x < 18446744073709551615
        · have hw : IntKind.u64.wrap ((x : Int) + 1) = ((x + 1 : Nat) : Int) := by rw [IntWalk.u64_in _ (by omega)]; rfl
          have hxi : (x : Int) < 18446744073709551615 := by omega
          cases hD : RT.deny
          all_goals
            rw [hD] at d42
            go_wp2_with fail
            have hz := HS.out (x + 1)
            have hOf : Only (fun j => B ≤ j ∧ j < T) w (w5.setCell ⟨h, i, none⟩ (.int .u64 ((x + 1 : Nat) : Int))) := HOo.setCell (p := ⟨h, i, none⟩) (fun _ => HBh.out) _
            first
              | exact bodyPost_ret (v := .tuple #[.int .i64 0, .int .i64 90]) (by simp [results, Try.results8, go_sem]) rfl ⟨by rw [HRT.out, toldRes, hD]; rfl, by rw [HBu.out, if_pos hmx]; exact hz, hOf⟩
              | exact bodyPost_ret (v := .tuple #[.int .i64 RT.cls, .int .i64 0]) (by simp [results, Try.results8, go_sem]) rfl ⟨by rw [HRT.out, toldRes, hD]; rfl, by rw [HBu.out, if_pos hmx]; exact hz, hOf⟩
        · have hxi : ¬ (x : Int) < 18446744073709551615 := by omega
          cases hD : RT.deny
          all_goals
            rw [hD] at d42
            go_wp2_with fail
            first
              | exact bodyPost_ret (v := .tuple #[.int .i64 0, .int .i64 90]) (by simp [results, Try.results8, go_sem]) rfl ⟨by rw [HRT.out, toldRes, hD]; rfl, by rw [HBu.out, if_neg hmx]; exact HC5.out.1, HOo⟩
              | exact bodyPost_ret (v := .tuple #[.int .i64 RT.cls, .int .i64 0]) (by simp [results, Try.results8, go_sem]) rfl ⟨by rw [HRT.out, toldRes, hD]; rfl, by rw [HBu.out, if_neg hmx]; exact HC5.out.1, HOo⟩
    · as_aux_lemma =>
      obtain ⟨RT, hRT⟩ : ∃ R, o = R := ⟨_, rfl⟩
      have hRok : RT.Ok := by rw [← hRT]; exact hook
      have hbk := H4.out.1
      rw [hRT] at hbk
      have HRT := Lib.hid (hto.trans hRT)
      have HPL := Lib.hid hpl
      have HC5 := Lib.hid (And.intro C4 (And.intro hbk (And.intro (Below.only (S := fun j => B ≤ j ∧ j < T) (show Below w.heap.size w w4 by rw [HBW.out]; exact H4.out.2)) hRok)))
      obtain ⟨w5, rfl⟩ : ∃ wo : World, wo = w4 := ⟨_, rfl⟩
      clear hRT hpl hto hbk hRl
      go_upto_region 7 with (fail)
      clear c0 hb hv C4 H4 HF HC
      have C5 := HC5.out.1
      obtain ⟨va, vh, hb, hv, hh, hva, hvh⟩ := C5.ex
      have hlen5 := C5.hlen
      have hpos : l.length < hs.length := by omega
      rcases hh.2 with ⟨_, h0⟩ | ⟨h, cap, cur, hvv, hhB, hhb, hc1, hc2, hc3, hc4⟩
      · omega
      · subst hvv
        obtain ⟨x, hx⟩ : ∃ x, hs[l.length]? = some x := ⟨_, List.getElem?_eq_getElem hpos⟩
        have hhT : h < T := hvh h rfl
        have hci : cur[l.length]? = some (.int .u64 (x : Nat)) := by
          have h1 : (hCells hs)[l.length]? = some (.int .u64 (x : Nat)) := by simp [hCells, hx]
          rw [← hc4, List.getElem?_take_of_lt (by omega)] at h1
          simpa using h1
        have y0 : w5.cell? ⟨h, l.length, none⟩ = some (.int .u64 (x : Nat)) := (cell_of_block hhb _).trans hci
        have y1 : w5.frozen? ⟨h, l.length, none⟩ = false := free_of_block hhb _
        have c45 := clH hook hb
        have d42 := Ru.c42 HC5.out.2.2.2 (range_block HC5.out.2.1)
        have d43 := Ru.c43 HC5.out.2.2.2 (range_block HC5.out.2.1)
        have hgh : ¬ g = h := by omega
        have hgh' : ¬ h = g := by omega
        have HS := Lib.hid (fun (z : Nat) => setC (i := l.length) (x := z) hpb C5.top hook C5.lok hlen5 hb hv hva hhb hhB hhT hc1 hc2 (by rw [hc3]; omega) (by simpa using hc4))
        have HBu : Hid (bump hs (place l k) = if x < 18446744073709551615 then hs.set l.length (x + 1) else hs) := by
          show bump hs (place l k) = _
          rw [HPL.out, bump, List.getD, hx]
          rfl
        have HBh := Lib.hid (And.intro hhB hhT)
        have HOo := Lib.hid HC5.out.2.2.1
        clear hb hv hh hva hvh hhb hc1 hc2 hc3 hc4 hci hx C5 hlen5
        by_cases hmx : x < 18446744073709551615
        · have hw : IntKind.u64.wrap ((x : Int) + 1) = ((x + 1 : Nat) : Int) := by rw [IntWalk.u64_in _ (by omega)]; rfl
          have hxi : (x : Int) < 18446744073709551615 := by omega
          cases hD : RT.deny
          all_goals
            rw [hD] at d42
            go_wp2_with fail
            have hz := HS.out (x + 1)
            have hOf : Only (fun j => B ≤ j ∧ j < T) w (w5.setCell ⟨h, l.length, none⟩ (.int .u64 ((x + 1 : Nat) : Int))) := HOo.setCell (p := ⟨h, l.length, none⟩) (fun _ => HBh.out) _
            first
              | exact bodyPost_ret (v := .tuple #[.int .i64 0, .int .i64 90]) (by simp [results, Try.results8, go_sem]) rfl ⟨by rw [HRT.out, toldRes, hD]; rfl, by rw [HBu.out, if_pos hmx]; exact hz, hOf⟩
              | exact bodyPost_ret (v := .tuple #[.int .i64 RT.cls, .int .i64 0]) (by simp [results, Try.results8, go_sem]) rfl ⟨by rw [HRT.out, toldRes, hD]; rfl, by rw [HBu.out, if_pos hmx]; exact hz, hOf⟩
        · have hxi : ¬ (x : Int) < 18446744073709551615 := by omega
          cases hD : RT.deny
          all_goals
            rw [hD] at d42
            go_wp2_with fail
            first
              | exact bodyPost_ret (v := .tuple #[.int .i64 0, .int .i64 90]) (by simp [results, Try.results8, go_sem]) rfl ⟨by rw [HRT.out, toldRes, hD]; rfl, by rw [HBu.out, if_neg hmx]; exact HC5.out.1, HOo⟩
              | exact bodyPost_ret (v := .tuple #[.int .i64 RT.cls, .int .i64 0]) (by simp [results, Try.results8, go_sem]) rfl ⟨by rw [HRT.out, toldRes, hD]; rfl, by rw [HBu.out, if_neg hmx]; exact HC5.out.1, HOo⟩
end Go.Proofs.Ytcbkcalemfminaa

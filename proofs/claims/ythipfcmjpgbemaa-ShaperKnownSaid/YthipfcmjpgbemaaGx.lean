/- What goes out is within each class's burst and rate, and in order: plain laws. -/
import Derived.Test.YthipfcmjpgbemaaGk
import Derived.Test.YthipfcmjpgbemaaGa
namespace Go.Proofs.Ythipfcmjpgbemaa
open Go.RowKit

/-- How much of a class went out. -/
def sumC (c : Nat) : List OutR → Nat
  | [] => 0
  | o :: t => (if o.cls = c then o.x.size else 0) + sumC c t
theorem sumC_append (c : Nat) : ∀ (L M : List OutR), sumC c (L ++ M) = sumC c L + sumC c M
  | [], M => by simp [sumC]
  | o :: t, M => by
    show (if o.cls = c then o.x.size else 0) + sumC c (t ++ M) = (if o.cls = c then o.x.size else 0) + sumC c t + sumC c M
    rw [sumC_append c t M]
    omega
theorem sumC_one (c : Nat) (o : OutR) : sumC c [o] = if o.cls = c then o.x.size else 0 := by simp [sumC]
/-- The numbers of a class's items. -/
def nosC (c : Nat) (L : List OutR) : List Nat := L.filterMap fun o => if o.cls = c then some o.x.no else none
theorem nosC_append (c : Nat) (L M : List OutR) : nosC c (L ++ M) = nosC c L ++ nosC c M := List.filterMap_append
theorem nosC_one (c : Nat) (o : OutR) : nosC c [o] = if o.cls = c then [o.x.no] else [] := by
  unfold nosC
  by_cases h : o.cls = c <;> simp [h]

structure Fair (l : List Cl) (S : Sh) (off : List (List Nat)) (L : List OutR) : Prop where
  ll : S.ls.length = l.length
  lo : off.length = l.length
  ln : ∀ (c : Nat) (x : Cl) (M : Ln), l[c]? = some x → S.ls[c]? = some M → M.B.rate = x.rate ∧ M.B.burst = x.burst ∧ M.B.tok ≤ M.B.burst ∧ M.B.tick ≤ S.tick ∧ M.Q.items = x.items.toNat ∧ M.Q.bound = x.size.toNat
  cl : ∀ o ∈ L, o.cls < l.length ∧ o.at' ≤ S.tick ∧ o.x.size ≤ 2048
  up : L.Pairwise (fun a b => a.at' ≤ b.at')
  ord : ∀ (c : Nat) (M : Ln) (os : List Nat), S.ls[c]? = some M → off[c]? = some os → os = nosC c L ++ M.Q.L.map It.no
  sum : ∀ (i : Nat) (o : OutR) (M : Ln), L[i]? = some o → S.ls[o.cls]? = some M → o.at' ≤ M.B.tick ∧ sumC o.cls (L.drop i) + M.B.tok ≤ M.B.burst + M.B.rate * (M.B.tick - o.at')
  pre : ∀ (i k : Nat) (o p : OutR) (x : Cl), i ≤ k → L[i]? = some o → L[k]? = some p → p.cls = o.cls → l[o.cls]? = some x → sumC o.cls ((L.drop i).take (k + 1 - i)) ≤ x.burst + x.rate * (p.at' - o.at')

theorem fair_new (l : List Cl) : Fair l ⟨0, l.map (newLn · 0)⟩ (List.replicate l.length []) [] := by
  refine ⟨List.length_map .., List.length_replicate, fun c x M hx hM => ?_, fun o ho => (by cases ho), List.Pairwise.nil, fun c M os hM hos => ?_, fun i o M ho => by simp at ho, fun i k o p x _ ho => by simp at ho⟩
  · have hM : (l.map (newLn · 0))[c]? = some M := hM
    rw [List.getElem?_map, hx] at hM
    injection hM with hM
    subst hM
    exact ⟨rfl, rfl, Nat.le_refl _, Nat.le_refl _, rfl, rfl⟩
  · have hM : (l.map (newLn · 0))[c]? = some M := hM
    rw [List.getElem?_map] at hM
    obtain ⟨x, -, rfl⟩ := Option.map_eq_some_iff.1 hM
    rw [List.getElem?_replicate] at hos
    split at hos
    · injection hos with hos
      rw [← hos]
      rfl
    · cases hos

/-- Where When tells a tick, there are as many tokens from it on. -/
theorem when_can {B : Bk} {n t : Nat} (hB : B.tok ≤ B.burst) (h : (B.when n).2 = true) (ht : (B.when n).1 ≤ t) : n ≤ (B.fill t).tok := by
  by_cases hn : n ≤ B.tok
  · by_cases hle : t ≤ B.tick
    · rw [Bk.fill_le hle]; exact hn
    · rw [Bk.fill_gt hle]
      show n ≤ min B.burst (B.tok + B.rate * (t - B.tick))
      exact Nat.le_min.2 ⟨by omega, by omega⟩
  · obtain ⟨h1, h2, -, h4⟩ := wait_then (by omega) h
    generalize (B.when n).1 = u at *
    have h5 : n ≤ (B.fill u).tok := of_decide_eq_true h4
    rw [Bk.fill_gt (by omega)] at h5 ⊢
    have h5 : n ≤ min B.burst (B.tok + B.rate * (u - B.tick)) := h5
    show n ≤ min B.burst (B.tok + B.rate * (t - B.tick))
    have h6 : B.rate * (u - B.tick) ≤ B.rate * (t - B.tick) := Nat.mul_le_mul_left _ (by omega)
    exact Nat.le_min.2 ⟨by have := Nat.min_le_left B.burst (B.tok + B.rate * (u - B.tick)); omega, by have := Nat.min_le_right B.burst (B.tok + B.rate * (u - B.tick)); omega⟩

theorem Fair.tick {l : List Cl} {S : Sh} {off : List (List Nat)} {L : List OutR} (h : Fair l S off L) {t : Nat} (ht : S.tick ≤ t) : Fair l ⟨t, S.ls⟩ off L :=
  ⟨h.ll, h.lo, fun c x M hx hM => let ⟨a, b, c, d, e⟩ := h.ln c x M hx hM; ⟨a, b, c, Nat.le_trans d ht, e⟩, fun o ho => let ⟨a, b, c⟩ := h.cl o ho; ⟨a, Nat.le_trans b ht, c⟩, h.up, h.ord, h.sum, h.pre⟩

/-- What a step takes. -/
theorem step_take {l : List Cl} {S S' : Sh} {off : List (List Nat)} {L : List OutR} {t n : Nat} {o : OutR} (h : Fair l S off L) (hok : S.Ok n) (hs : S.step t = some (S', o)) :
    ∃ M q m, S.ls[o.cls]? = some M ∧ M.Q.L = o.x :: q ∧ S.tick ≤ o.at' ∧ S' = ⟨o.at', S.ls.set o.cls ⟨M.off, M.drp, M.out + 1, M.byt + o.x.size, ⟨M.B.rate, M.B.burst, o.at', m⟩, popped M.Q q⟩⟩ ∧ m + o.x.size ≤ M.B.burst ∧ m + o.x.size ≤ M.B.tok + M.B.rate * (o.at' - M.B.tick) ∧ o.x.size ≤ 2048 := by
  obtain ⟨M, q, hn, hc, ha, hle, hM, hq, rfl, -⟩ := step_some hs
  obtain ⟨c, M2, hc2, hcl, hM2, hw, -⟩ := S.found.yes hn
  have hcc : c = o.cls := by rw [hc] at hc2; omega
  subst hcc
  rw [hM] at hM2
  injection hM2 with hM2
  subst hM2
  have hge := next_ge hn
  rw [ha] at hge hw
  unfold lnWhen at hw
  rw [hq] at hw
  have hw : (max (M.B.when o.x.size).1 S.tick, (M.B.when o.x.size).2) = (o.at', true) := hw
  injection hw with hw1 hw2
  obtain ⟨x, hx⟩ : ∃ x, l[o.cls]? = some x := ⟨_, List.getElem?_eq_getElem (by rw [← h.ll]; exact hcl)⟩
  obtain ⟨-, -, htb, htk, -, -⟩ := h.ln _ _ M hx hM
  have hcan := when_can htb hw2 (show (M.B.when o.x.size).1 ≤ o.at' by omega)
  have hf : M.B.fill o.at' = ⟨M.B.rate, M.B.burst, o.at', min M.B.burst (M.B.tok + M.B.rate * (o.at' - M.B.tick))⟩ := fill_at (r := M.B.rate) (b := M.B.burst) (T := M.B.tick) (tok := M.B.tok) htb (by omega)
  have hsz := (hok.ln M (List.mem_of_getElem? hM)).size o.x (by rw [hq]; simp)
  have ht : M.B.take o.at' o.x.size = ⟨M.B.rate, M.B.burst, o.at', min M.B.burst (M.B.tok + M.B.rate * (o.at' - M.B.tick)) - o.x.size⟩ := by
    rw [Bk.take_yes hcan, hf]
    rfl
  rw [hf] at hcan
  have hcan : o.x.size ≤ min M.B.burst (M.B.tok + M.B.rate * (o.at' - M.B.tick)) := hcan
  have h1 := Nat.min_le_left M.B.burst (M.B.tok + M.B.rate * (o.at' - M.B.tick))
  have h2 := Nat.min_le_right M.B.burst (M.B.tok + M.B.rate * (o.at' - M.B.tick))
  refine ⟨M, q, min M.B.burst (M.B.tok + M.B.rate * (o.at' - M.B.tick)) - o.x.size, hM, hq, hge, ?_, by omega, by omega, hsz⟩
  unfold outL
  rw [ht]

theorem Fair.step {l : List Cl} {S S' : Sh} {off : List (List Nat)} {L : List OutR} {t n : Nat} {o : OutR} (h : Fair l S off L) (hok : S.Ok n) (hs : S.step t = some (S', o)) : Fair l S' off (L ++ [o]) := by
  obtain ⟨M, q, m, hM, hq, hge, rfl, h1, h2, hsz⟩ := step_take h hok hs
  have hcl := (List.getElem?_eq_some_iff.1 hM).1
  obtain ⟨x0, hx0⟩ : ∃ x0, l[o.cls]? = some x0 := ⟨_, List.getElem?_eq_getElem (by rw [← h.ll]; exact hcl)⟩
  obtain ⟨hr, hb, htb, htk, hqi, hqb⟩ := h.ln _ _ M hx0 hM
  have hself : ∀ M', (S.ls.set o.cls M')[o.cls]? = some M' := fun M' => List.getElem?_set_self hcl
  have hother : ∀ M' c, c ≠ o.cls → (S.ls.set o.cls M')[c]? = S.ls[c]? := fun M' c hc => List.getElem?_set_ne (by omega)
  have hsum : ∀ (i : Nat) (o2 : OutR) (M2 : Ln), (L ++ [o])[i]? = some o2 → (S.ls.set o.cls ⟨M.off, M.drp, M.out + 1, M.byt + o.x.size, ⟨M.B.rate, M.B.burst, o.at', m⟩, popped M.Q q⟩)[o2.cls]? = some M2 → o2.at' ≤ M2.B.tick ∧ sumC o2.cls ((L ++ [o]).drop i) + M2.B.tok ≤ M2.B.burst + M2.B.rate * (M2.B.tick - o2.at') := by
    intro i o2 M2 ho2 hM2
    by_cases hi : i < L.length
    · rw [List.getElem?_append_left hi] at ho2
      rw [List.drop_append_of_le_length (by omega), sumC_append, sumC_one]
      by_cases hc : o2.cls = o.cls
      · rw [hc] at hM2 ⊢
        rw [hself] at hM2
        injection hM2 with hM2
        obtain ⟨h3, h4⟩ := h.sum i o2 M ho2 (by rw [hc]; exact hM)
        rw [hc] at h4
        rw [if_pos rfl, ← hM2]
        have e : M.B.rate * (o.at' - o2.at') = M.B.rate * (M.B.tick - o2.at') + M.B.rate * (o.at' - M.B.tick) := by
          rw [← Nat.mul_add]; congr 1; omega
        refine ⟨by show o2.at' ≤ o.at'; omega, ?_⟩
        show sumC o.cls (L.drop i) + o.x.size + m ≤ M.B.burst + M.B.rate * (o.at' - o2.at')
        omega
      · rw [hother _ _ hc] at hM2
        rw [if_neg (fun e => hc e.symm), Nat.add_zero]
        exact h.sum i o2 M2 ho2 hM2
    · have hil : i = L.length := by
        have := (List.getElem?_eq_some_iff.1 ho2).1
        simp at this
        omega
      subst hil
      rw [List.getElem?_append_right (by omega), Nat.sub_self] at ho2
      injection ho2 with ho2
      subst ho2
      rw [hself] at hM2
      injection hM2 with hM2
      rw [← hM2, List.drop_append_of_le_length (by omega), List.drop_length, List.nil_append, sumC_one, if_pos rfl]
      refine ⟨Nat.le_refl _, ?_⟩
      show o.x.size + m ≤ M.B.burst + M.B.rate * (o.at' - o.at')
      omega
  refine ⟨by show (S.ls.set _ _).length = _; rw [List.length_set]; exact h.ll, h.lo, ?_, ?_, ?_, ?_, hsum, ?_⟩
  · intro c x M2 hx hM2
    have hM2 : (S.ls.set o.cls _)[c]? = some M2 := hM2
    by_cases hc : c = o.cls
    · subst hc
      rw [hself] at hM2
      injection hM2 with hM2
      rw [hx0] at hx
      injection hx with hx
      subst hx
      rw [← hM2]
      exact ⟨hr, hb, by show m ≤ M.B.burst; omega, Nat.le_refl _, hqi, hqb⟩
    · rw [hother _ _ hc] at hM2
      obtain ⟨k1, k2, k3, k4, k5⟩ := h.ln c x M2 hx hM2
      exact ⟨k1, k2, k3, Nat.le_trans k4 hge, k5⟩
  · intro o2 ho2
    rcases List.mem_append.1 ho2 with ho2 | ho2
    · obtain ⟨k1, k2, k3⟩ := h.cl o2 ho2
      exact ⟨k1, Nat.le_trans k2 hge, k3⟩
    · simp at ho2
      subst ho2
      exact ⟨by rw [← h.ll]; exact hcl, Nat.le_refl _, hsz⟩
  · refine List.pairwise_append.2 ⟨h.up, List.pairwise_singleton .., fun a ha b hb => ?_⟩
    simp at hb
    subst hb
    exact Nat.le_trans (h.cl a ha).2.1 hge
  · intro c M2 os hM2 hos
    have hM2 : (S.ls.set o.cls _)[c]? = some M2 := hM2
    rw [nosC_append, nosC_one]
    by_cases hc : c = o.cls
    · subst hc
      rw [hself] at hM2
      injection hM2 with hM2
      rw [if_pos rfl, ← hM2, h.ord _ M os hM hos, hq]
      show _ = _ ++ q.map It.no
      simp
    · rw [hother _ _ hc] at hM2
      rw [if_neg (fun e => hc e.symm), List.append_nil]
      exact h.ord c M2 os hM2 hos
  · intro i k o2 p x hik ho2 hp hc hx
    by_cases hk : k < L.length
    · rw [List.getElem?_append_left hk] at hp
      rw [List.getElem?_append_left (by omega)] at ho2
      rw [List.drop_append_of_le_length (by omega), List.take_append_of_le_length (by rw [List.length_drop]; omega)]
      exact h.pre i k o2 p x hik ho2 hp hc hx
    · have hkl : k = L.length := by
        have := (List.getElem?_eq_some_iff.1 hp).1
        simp at this
        omega
      subst hkl
      rw [List.getElem?_append_right (by omega), Nat.sub_self] at hp
      injection hp with hp
      subst hp
      rw [List.take_of_length_le (by rw [List.length_drop, List.length_append]; simp)]
      have h3 := hsum i o2 _ ho2 (by rw [← hc]; exact hself _)
      rw [← hc, hx0] at hx
      injection hx with hx
      subst hx
      have h4 : sumC o2.cls ((L ++ [o]).drop i) + m ≤ M.B.burst + M.B.rate * (o.at' - o2.at') := h3.2
      rw [hr, hb] at h4
      omega

theorem Fair.runs {l : List Cl} {off : List (List Nat)} {t n : Nat} (ht : t < 18446744073709551616) : ∀ {os : List OutR} {S S' : Sh} {L : List OutR}, Runs t os S S' → S.Ok n → S.tick ≤ t → Fair l S off L → Fair l S' off (L ++ os)
  | [], S, S', L, h, _, hu, hF => by
    obtain ⟨-, rfl⟩ := h
    rw [List.append_nil]
    exact hF.tick hu
  | x :: os, S, S', L, h, hok, hu, hF => by
    obtain ⟨S1, hs, hr⟩ := h
    have h1 := hF.step hok hs
    have h2 := step_tick hs
    have h3 := Fair.runs ht hr (step_ok hok hs) (by omega) h1
    rwa [List.append_assoc] at h3
theorem Fair.rel {l : List Cl} {off : List (List Nat)} {t n : Nat} {S : Sh} {L : List OutR} (h : Fair l S off L) (hok : S.Ok n) (ht : t < 18446744073709551616) :
    Fair l (S.rel t).1 off (L ++ (S.rel t).2) ∧ (S.rel t).1.tick = max t S.tick ∧ ((S.rel t).1.next.ok = true → (S.rel t).1.tick < (S.rel t).1.next.at') := by
  have hr := rel_runs S t
  have hm := hok.tick
  have he := runs_end hr (by omega)
  exact ⟨h.runs (by omega) hr hok (by omega), he.1, fun hn => by rw [he.1]; exact he.2 hn⟩

/-- Behind an offer. -/
theorem Fair.offer {l : List Cl} {off : List (List Nat)} {S : Sh} {L : List OutR} (h : Fair l S off L) {c no : Nat} {sz : Int} {M : Ln} {os : List Nat} (hM : S.ls[c]? = some M) (hos : off[c]? = some os) (h0 : 0 ≤ sz) :
    Fair l ⟨S.tick, S.ls.set c (offL M no sz [])⟩ (if roomB M.Q sz = true then off.set c (os ++ [no]) else off) L := by
  have hcl := (List.getElem?_eq_some_iff.1 hM).1
  have hcl2 := (List.getElem?_eq_some_iff.1 hos).1
  have hself : ∀ M', (S.ls.set c M')[c]? = some M' := fun M' => List.getElem?_set_self hcl
  have hother : ∀ M' d, d ≠ c → (S.ls.set c M')[d]? = S.ls[d]? := fun M' d hd => List.getElem?_set_ne (by omega)
  have hL := pushA_L M.Q no sz [] h0
  have hB : (offL M no sz []).B = M.B := rfl
  have hQ : (offL M no sz []).Q = pushA M.Q no sz [] := rfl
  have hpb := pushA_bounds M.Q no sz []
  refine ⟨by show (S.ls.set _ _).length = _; rw [List.length_set]; exact h.ll, ?_, ?_, h.cl, h.up, ?_, ?_, h.pre⟩
  · split
    · rw [List.length_set]; exact h.lo
    · exact h.lo
  · intro d x M2 hx hM2
    have hM2 : (S.ls.set c _)[d]? = some M2 := hM2
    by_cases hd : d = c
    · subst hd
      rw [hself] at hM2
      injection hM2 with hM2
      rw [← hM2, hB, hQ, hpb.1, hpb.2.1]
      exact h.ln d x M hx hM
    · rw [hother _ _ hd] at hM2
      exact h.ln d x M2 hx hM2
  · intro d M2 os2 hM2 hos2
    have hM2 : (S.ls.set c _)[d]? = some M2 := hM2
    by_cases hd : d = c
    · subst hd
      rw [hself] at hM2
      injection hM2 with hM2
      rw [← hM2, hQ, hL]
      by_cases hr : roomB M.Q sz = true
      · rw [if_pos hr] at hos2 ⊢
        rw [List.getElem?_set_self hcl2] at hos2
        injection hos2 with hos2
        rw [← hos2, h.ord d M os hM hos]
        simp
      · rw [if_neg hr] at hos2 ⊢
        rw [hos] at hos2
        injection hos2 with hos2
        rw [← hos2]
        exact h.ord d M os hM hos
    · rw [hother _ _ hd] at hM2
      refine h.ord d M2 os2 hM2 ?_
      rw [← hos2]
      split
      · rw [List.getElem?_set_ne (by omega)]
      · rfl
  · intro i o M2 ho hM2
    have hM2 : (S.ls.set c _)[o.cls]? = some M2 := hM2
    by_cases hd : o.cls = c
    · rw [hd] at hM2
      rw [hself] at hM2
      injection hM2 with hM2
      rw [← hM2, hB]
      exact h.sum i o M ho (by rw [hd]; exact hM)
    · rw [hother _ _ hd] at hM2
      exact h.sum i o M2 ho hM2
theorem total_off {S : Sh} {c no : Nat} {sz : Int} {M : Ln} (hM : S.ls[c]? = some M) (h0 : 0 ≤ sz) : total (S.ls.set c (offL M no sz [])) ≤ total S.ls + 1 := by
  have h1 := total_set S.ls c M (offL M no sz []) hM
  have hL : (offL M no sz []).Q.L = _ := pushA_L M.Q no sz [] h0
  rw [hL] at h1
  split at h1
  · rw [List.length_append] at h1
    simp at h1
    omega
  · omega

/-- Where the class of the item i, and of those ahead of it, is in a row. -/
theorem nosC_take {L : List OutR} {i : Nat} {o : OutR} (h : L[i]? = some o) (c : Nat) : nosC c (L.take (i + 1)) = nosC c (L.take i) ++ (if o.cls = c then [o.x.no] else []) := by
  rw [List.take_add_one, h, Option.toList_some, nosC_append, nosC_one]
theorem nosC_at {L : List OutR} {i : Nat} {o : OutR} (h : L[i]? = some o) (rest : List Nat) : (nosC o.cls (L.take i)).length < (nosC o.cls L ++ rest).length ∧ (nosC o.cls L ++ rest)[(nosC o.cls (L.take i)).length]? = some o.x.no := by
  have h1 : nosC o.cls L = nosC o.cls (L.take i) ++ (o.x.no :: nosC o.cls (L.drop (i + 1))) := by
    have h2 : L = L.take i ++ ([o] ++ L.drop (i + 1)) := by
      have hi := (List.getElem?_eq_some_iff.1 h)
      rw [List.singleton_append, ← hi.2, ← List.drop_eq_getElem_cons hi.1, List.take_append_drop]
    have h3 : nosC o.cls L = nosC o.cls (L.take i ++ ([o] ++ L.drop (i + 1))) := congrArg _ h2
    rw [h3, nosC_append, nosC_append, nosC_one, if_pos rfl]
    rfl
  rw [h1]
  constructor
  · simp
  · simp
theorem sumC_drop_take {L : List OutR} {i k : Nat} {o : OutR} (hik : i ≤ k) (h : L[k]? = some o) (c : Nat) : sumC c ((L.drop i).take (k + 1 - i)) = sumC c ((L.drop i).take (k - i)) + (if o.cls = c then o.x.size else 0) := by
  rw [show k + 1 - i = (k - i) + 1 by omega, List.take_add_one, List.getElem?_drop, show i + (k - i) = k by omega, h, Option.toList_some, sumC_append, sumC_one]
theorem sumC_le (c : Nat) : ∀ (L : List OutR), (∀ o ∈ L, o.x.size ≤ 2048) → sumC c L ≤ 2048 * L.length
  | [], _ => Nat.le_refl _
  | o :: t, h => by
    have h1 := sumC_le c t (fun p hp => h p (List.mem_cons_of_mem _ hp))
    have h2 := h o (List.mem_cons_self ..)
    show (if o.cls = c then o.x.size else 0) + sumC c t ≤ _
    rw [List.length_cons]
    split <;> omega
end Go.Proofs.Ythipfcmjpgbemaa

/- What went out, held against each class's burst and rate: walked. -/
namespace Go.Proofs.Ythipfcmjpgbemaa
open Go.RowKit

def IRel (W : World) (n : Nat) (iv : Value) (w : World) : Prop := ∃ i : Nat, iv = .int .i64 i ∧ i ≤ n ∧ Below W.heap.size W w
def KRel (W : World) (L : List OutR) (i c : Nat) (sv kv : Value) (w : World) : Prop := ∃ k : Nat, kv = .int .i64 k ∧ i ≤ k ∧ k ≤ L.length ∧ sv = .int .u64 (sumC c ((L.drop i).take (k - i))) ∧ Below W.heap.size W w

theorem cls_at {w : World} {a : Option Addr} {n cap : Nat} {l : List Cl} (h : Cls w (.slice a n cap) l) {c : Nat} {x : Cl} (hx : l[c]? = some x) :
    ∃ b o, a = some ⟨b, o, none⟩ ∧ b < w.heap.size ∧ w.cell? ⟨b, o + c * 4, none⟩ = some (.int .u64 x.rate) ∧ w.cell? ⟨b, o + c * 4 + 1, none⟩ = some (.int .u64 x.burst) ∧ w.cell? ⟨b, o + c * 4 + 2, none⟩ = some (.int .i64 x.items) ∧ w.cell? ⟨b, o + c * 4 + 3, none⟩ = some (.int .i64 x.size) := by
  obtain ⟨a', c', e, hc, h⟩ := h.sh
  injection e with e1 e2 e3
  subst e1
  obtain ⟨b, o, ea, hb, hj⟩ := h (by have := (List.getElem?_eq_some_iff.1 hx).1; omega)
  exact ⟨b, o, ea, hb, hj c x hx⟩

set_option maxHeartbeats 1000000 in
set_option maxRecDepth 100000 in
theorem bounded_is {w : World} {v vo : Value} {l : List Cl} {S : Sh} {off : List (List Nat)} {L : List OutR} {F : Nat → Prop} {xs : List Value} (hl : Cls w v l) (hg : GotR w F vo xs L) (hF : Fair l S off L)
    (hsm : ∀ x ∈ l, x.rate < 1048576 ∧ x.burst < 1048576) (ht : S.tick < 4294967296) (h8 : l.length ≤ 8) (hn : L.length ≤ 100000) :
    Calls Try.prog 18 #[v, vo] w fun e w' => e = .returned (.bool true) ∧ Below w.heap.size w w' := by
  obtain ⟨a, c, rfl, -⟩ := id hl.sh
  obtain ⟨oa, oc, eo⟩ := own_shape hg.row
  subst eo
  have HL := Lib.hid hl
  have HG := Lib.hid hg
  have HF := Lib.hid hF
  have HS := Lib.hid hsm
  clear hl hg hF hsm
  go_enter Try.func18, Try.ntmps18
  go_wp2_with fail
  go_loopw [5] (IRel w L.length) (fun i _ => L.length - (intOf i).toNat)
  case atStart => exact ⟨0, rfl, Nat.zero_le _, Below.refl _ _⟩
  case round =>
    obtain ⟨i, rfl, hi, hB⟩ := hrel
    by_cases hil : i < L.length
    · obtain ⟨o, hoi⟩ : ∃ o, L[i]? = some o := ⟨_, List.getElem?_eq_getElem hil⟩
      obtain ⟨hoc, hoa, hos⟩ := HF.out.cl o (List.mem_of_getElem? hoi)
      obtain ⟨x, hx⟩ : ∃ x, l[o.cls]? = some x := ⟨_, List.getElem?_eq_getElem hoc⟩
      obtain ⟨hr, hb⟩ := HS.out x (List.mem_of_getElem? hx)
      obtain ⟨g, cap, eg, hgl, hcell⟩ := HG.out.at (by omega)
      injection eg with eg1 eg2 eg3
      subst eg1 eg3
      clear eg2
      obtain ⟨b, ob, rfl, hbl, d0, d1, -, -⟩ := cls_at HL.out hx
      obtain ⟨e0, e1, -⟩ := HG.out.cs i o hoi
      have y0 := (hB.cell (p := ⟨g, _, none⟩) hgl).trans (hcell _ _ e0)
      have y1 := (hB.cell (p := ⟨g, _, none⟩) hgl).trans (hcell _ _ e1)
      have hii : (i : Int) < (L.length : Int) := by omega
      have hcl : ¬ (l.length : Int) ≤ (o.cls : Int) := by omega
      have hc0 : ¬ (o.cls : Int) < 0 := by omega
      have HB := Lib.hid hB
      clear hB e0 e1
      go_wp2_with fail
      go_loopw [6, 8] (KRel w L i o.cls) (fun _ k _ => L.length - (intOf k).toNat)
      case atStart => exact ⟨i, rfl, Nat.le_refl _, by omega, by rw [Nat.sub_self]; rfl, HB.out⟩
      case round =>
        clear y0 y1
        obtain ⟨k, rfl, hik, hk, rfl, hB⟩ := hrel
        by_cases hkl : k < L.length
        · obtain ⟨p, hpk⟩ : ∃ p, L[k]? = some p := ⟨_, List.getElem?_eq_getElem hkl⟩
          obtain ⟨hpc, hpa, hps⟩ := HF.out.cl p (List.mem_of_getElem? hpk)
          obtain ⟨e0, e1, -⟩ := HG.out.cs i o hoi
          obtain ⟨f0, f1, yy, hy⟩ := HG.out.cs k p hpk
          have f3 := hy.c1
          have y0 := (hB.cell (p := ⟨g, _, none⟩) hgl).trans (hcell _ _ e0)
          have y1 := (hB.cell (p := ⟨g, _, none⟩) hgl).trans (hcell _ _ e1)
          have z0 := (hB.cell (p := ⟨g, _, none⟩) hgl).trans (hcell _ _ f0)
          have z1 := (hB.cell (p := ⟨g, _, none⟩) hgl).trans (hcell _ _ f1)
          have z3 := (hB.cell (p := ⟨g, _, none⟩) hgl).trans (hcell _ _ f3)
          have x0 := (hB.cell (p := ⟨b, _, none⟩) hbl).trans d0
          have x1 := (hB.cell (p := ⟨b, _, none⟩) hbl).trans d1
          have hki : (k : Int) < (L.length : Int) := by omega
          have hst := sumC_drop_take hik hpk o.cls
          have hsl := sumC_le o.cls ((L.drop i).take (k - i)) (fun q hq => (HF.out.cl q (List.mem_of_mem_drop (List.mem_of_mem_take hq))).2.2)
          rw [List.length_take_of_le (by rw [List.length_drop]; omega)] at hsl
          have HB2 := Lib.hid hB
          clear hB e0 e1 f0 f1 f3 hy
          by_cases hpo : p.cls = o.cls
          · have hup : o.at' ≤ p.at' := by
              rcases Nat.lt_or_ge i k with h1 | h1
              · obtain ⟨h1l, h1e⟩ := List.getElem?_eq_some_iff.1 hoi
                obtain ⟨h2l, h2e⟩ := List.getElem?_eq_some_iff.1 hpk
                have h3 := List.pairwise_iff_getElem.1 HF.out.up i k h1l h2l h1
                rw [h1e, h2e] at h3
                exact h3
              · have e : i = k := by omega
                subst e
                rw [hoi] at hpk
                injection hpk with hpk
                rw [hpk]
                exact Nat.le_refl _
            have hpre := HF.out.pre i k o p x hik hoi hpk hpo hx
            rw [if_pos hpo] at hst
            rw [hst] at hpre
            have HK : Hid (∀ w', Below w.heap.size w w' → KRel w L i o.cls (.int .u64 ((sumC o.cls ((L.drop i).take (k - i)) + p.x.size : Nat) : Int)) (.int .i64 (k + 1 : Nat)) w') := Lib.hid fun w' hB' => ⟨k + 1, rfl, by omega, hkl, by rw [hst], hB'⟩
            obtain ⟨d, hd⟩ : ∃ d, p.at' - o.at' = d := ⟨_, rfl⟩
            have hdi : (p.at' : Int) - (o.at' : Int) = (d : Int) := by omega
            have hdl : d < 4294967296 := by omega
            rw [hd] at hpre
            have hml : x.rate * d ≤ 1048576 * 4294967296 := Nat.mul_le_mul (by omega) (by omega)
            obtain ⟨m, hm⟩ : ∃ m, x.rate * d = m := ⟨_, rfl⟩
            have hmi : (x.rate : Int) * (d : Int) = (m : Int) := by rw [← hm]; simp
            rw [hm] at hpre hml
            clear hst hd hm hpk hoi hx
            generalize hs0 : sumC o.cls ((L.drop i).take (k - i)) = s at *
            obtain ⟨s2, hs2⟩ : ∃ s2, s + p.x.size = s2 := ⟨_, rfl⟩
            rw [hs2] at hpre HK
            have hsi : (s : Int) + (p.x.size : Int) = (s2 : Int) := by omega
            obtain ⟨u, hu⟩ : ∃ u, x.burst + m = u := ⟨_, rfl⟩
            have hui : (x.burst : Int) + (m : Int) = (u : Int) := by omega
            rw [hu] at hpre
            clear hs0
            generalize p.at' = pa at *
            generalize o.at' = oat at *
            generalize p.cls = pc at *
            subst hpo
            generalize p.x.size = psz at *
            generalize x.rate = xr at *
            generalize x.burst = xb at *
            have w1 : IntKind.u64.wrap (psz : Int) = psz := IntWalk.u64_in _ (by omega)
            have w2 : IntKind.u64.wrap ((s : Int) + (psz : Int)) = s2 := by rw [hsi]; exact IntWalk.u64_in _ (by omega)
            have w3 : IntKind.u64.wrap ((pa : Int) - (oat : Int)) = d := by rw [hdi]; exact IntWalk.u64_in _ (by omega)
            have w4 : IntKind.u64.wrap ((xr : Int) * (d : Int)) = m := by rw [hmi]; exact IntWalk.u64_in _ (by omega)
            have w5 : IntKind.u64.wrap ((xb : Int) + (m : Int)) = u := by rw [hui]; exact IntWalk.u64_in _ (by omega)
            have w6 : IntKind.u64.wrap (d : Int) = d := IntWalk.u64_in _ (by omega)
            have w7 : IntKind.u64.wrap (m : Int) = m := IntWalk.u64_in _ (by omega)
            have w8 : IntKind.u64.wrap (u : Int) = u := IntWalk.u64_in _ (by omega)
            have w9 : IntKind.u64.wrap (s2 : Int) = s2 := IntWalk.u64_in _ (by omega)
            have q1 : ¬ (pa : Int) < (oat : Int) := by omega
            have q2 : ¬ (u : Int) < (s2 : Int) := by omega
            go_wp2_with fail
            go_quiet (fail)
            all_goals
              go_wp2_with fail
              go_roundw
              case rel => exact HK.out _ (below_drewN HB2.out _)
              case measure => simp [intOf]; omega
          · have hpo2 : ¬ (p.cls : Int) = (o.cls : Int) := by omega
            rw [if_neg hpo, Nat.add_zero] at hst
            have HK : Hid (KRel w L i o.cls (.int .u64 ((sumC o.cls ((L.drop i).take (k - i)) : Nat) : Int)) (.int .i64 (k + 1 : Nat)) wr) := Lib.hid ⟨k + 1, rfl, by omega, hkl, by rw [hst]; rfl, HB2.out⟩
            clear hst hpk hoi hx
            generalize sumC o.cls ((L.drop i).take (k - i)) = s at *
            go_wp2_with fail
            go_roundw
            case rel => exact HK.out
            case measure => simp [intOf]; omega
        · have hki : ¬ (k : Int) < (L.length : Int) := by omega
          have HR : Hid (IRel w L.length (.int .i64 (i + 1 : Nat)) wr) := Lib.hid ⟨i + 1, rfl, hil, hB⟩
          clear hB
          go_wp2_with fail
          go_roundw
          case rel => exact HR.out
          case measure => simp [intOf]; omega
    · have hii : ¬ (i : Int) < (L.length : Int) := by omega
      have HB := Lib.hid hB
      clear hB
      go_wp2_with fail
      go_ret
      exact ⟨rfl, HB.out⟩
end Go.Proofs.Ythipfcmjpgbemaa

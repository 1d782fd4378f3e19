/- The rule for a region that draws its order. -/
import Derived.Test.YtnjmonkehjlaoaaGreatDoorG01
set_option linter.all false
namespace Go.Proofs.YtnjmonkehjlaoaaGreatDoor
variable {df : List Deferred}
variable {rr : Option Nat}
open Go.RowKit
section
variable {P : Program} {n m : Nat} {os : List Oper} {l : List (Nat × Value)} {w0 : Bs} {L : List HP} {H : List HV} {M : List Nat}
theorem Obx_get {Fin : List HV → Prop} : ∀ (r : List Oper) (i : Nat) (H0 : List HV), Obx df P n os l w0 L Fin i r H0 →
  ∃ H1, H1.length = r.length ∧ (∀ j o, r[j]? = some o → ∃ h, H1[j]? = some h ∧ Ob df P n os l w0 L (i + j) o (H0 ++ H1.take j) h) ∧ Fin (H0 ++ H1)
 | [], i, H0, h => ⟨[], rfl, fun j o ho => by simp at ho, by simpa [Obx] using h⟩
 | o :: r, i, H0, ⟨h, hob, hr⟩ => by
  obtain ⟨H1, h1, h2, h3⟩ := Obx_get r (i + 1) (H0 ++ [h]) hr
  refine ⟨h :: H1, by simp [h1], fun j o' ho' => ?_, by simpa using h3⟩
  cases j with
  | zero =>
   simp at ho';subst ho'
   exact ⟨h, rfl, by simpa using hob⟩
  | succ j =>
   obtain ⟨h', ha, hb⟩ := h2 j o' (by simpa using ho')
   refine ⟨h', by simpa using ha, ?_⟩
   rw [show i + (j + 1) = i + 1 + j from by omega]
   simpa using hb
theorem curW_take {i : Nat} {us : Nat → Value} {t : Nat} : curW os l (H.take i) i us t = curW os l H i us t := by
 unfold curW
 cases h : lastW os i t with
 | none => rfl
 | some k =>
  obtain ⟨h1, _, _⟩ := lastIn_spec h
  simp only [List.getElem?_take, if_pos h1]
theorem vwL_take {i : Nat} {us : Nat → Value} : ∀ ts : List Nat, vwL os l (H.take i) i us ts = vwL os l H i us ts
 | [] => rfl
 | t :: r => by simp only [vwL, curW_take, vwL_take r]
theorem depRd_of {i : Nat} {us : Nat → Value} {w : World} : ∀ ts : List Nat, (∀ t ∈ ts, ∀ k V, lastW os i t = some k → (H[k]?).bind (HV.own us) = some V → (V (us k)).rd w) → depRd os (H.take i) i us w ts
 | [], _ => trivial
 | t :: r, h => by
  refine ⟨?_, depRd_of r (fun t ht => h t (by simp [ht]))⟩
  cases hw : lastW os i t with
  | none => trivial
  | some k =>
   obtain ⟨h1, _, _⟩ := lastIn_spec hw
   simp only [List.getElem?_take, if_pos h1]
   cases hh : (H[k]?).bind (HV.own us) with
   | none => trivial
   | some V => exact h t (by simp) k V hw hh
theorem lastIn_put_ne {S S' : Nat → Bool} {i t : Nat} (hS : ∀ k, k ≠ i → S' k = S k) (hd : (os[i]?).bind (·.dst) ≠ some t) : ∀ j, lastIn S' os j t = lastIn S os j t
 | 0 => rfl
 | j + 1 => by
  unfold lastIn
  rw [lastIn_put_ne hS hd j]
  by_cases hj : j = i
  ·subst hj
   have : ((os[j]?).bind (·.dst) == some t) = false := by simpa using hd
   simp [this]
  ·rw [hS j hj]
theorem lastIn_put_eq {S' : Nat → Bool} {i t : Nat} (hi : S' i = true) (hd : (os[i]?).bind (·.dst) = some t) (hb : ∀ k, i < k → k < m → (os[k]?).bind (·.dst) = some t → S' k = false) :
  ∀ j, i < j → j ≤ m → lastIn S' os j t = some i
 | 0, h, _ => by omega
 | j + 1, h, hj => by
  unfold lastIn
  by_cases e : j = i
  ·subst e;simp [hi, hd]
  ·rw [lastIn_put_eq hi hd hb j (by omega) (by omega)]
   by_cases hd' : (os[j]?).bind (·.dst) = some t
   ·rw [hb j (by omega) (by omega) hd'];simp
   ·have : ((os[j]?).bind (·.dst) == some t) = false := by simpa using hd'
    simp [this]
theorem getD_set (listed : Array Bool) (i k : Nat) (hi : i < listed.size) : (listed.setIfInBounds i true).getD k false = if k = i then true else listed.getD k false := by
 simp only [Array.getD_eq_getD_getElem?]
 by_cases h : k = i
 ·subst h;simp [hi]
 ·rw [if_neg h, Array.getElem?_setIfInBounds_ne (by omega)]
theorem inv_put {listed : Array Bool} {us : Nat → Value} {a : Act} {w w' : World} {i : Nat} {o : Oper} {v : Value} {h : HV} (hC : Chk n m os M) (inv : Inv df n m os l w0 L H M listed us a w) (hi : i < m) (ho : os[i]? = some o)
  (hun : listed.getD i false = false) (hM : ∀ j, (M.getD i 0).testBit j = true → listed.getD j false = true) (hh : H[i]? = some h) (hT : ∀ (k j : Nat) (T : List HP) (A V : Value → HP), H[k]? = some (HV.tak j T A V) → ∃ p, H[j]? = some (.lnd k p A)) (hTl : ∀ (k j : Nat) (T : List HP) (A V : Value → HP), H[k]? = some (HV.tak j T A V) → j < k)
  {X : List HP} (hX : ∀ A V, h = .upd A V → At A (resS (fun k => listed.getD k false) us 0 H L) X ∧ Sub (resS (fun k => (listed.setIfInBounds i true).getD k false) (fun k => if k = i then v else us k) 0 H L) (V v :: X))
  (hY : ∀ q T A V, h = .tak q T A V → Sub (resS (fun k => (listed.setIfInBounds i true).getD k false) (fun k => if k = i then v else us k) 0 H L) (V v :: X))
  (hcp : ∀ k ∈ h.srcs, listed.getD k false = true) (hv : h.ok us w0 X w v w') :
  Inv df n m os l w0 L H M (listed.setIfInBounds i true) (fun k => if k = i then v else us k) (a.put o.dst v) w' := by
 have hsz : i < listed.size := by rw [inv.len];exact Nat.lt_of_lt_of_le hi hC.le
 have hS' : ∀ k, (listed.setIfInBounds i true).getD k false = if k = i then true else listed.getD k false := fun k => getD_set listed i k hsz
 have hne : ∀ k, k ≠ i → (fun k => (listed.setIfInBounds i true).getD k false) k = (fun k => listed.getD k false) k := fun k hk => by simp only [hS' k, if_neg hk]
 have hoi : (os[i]?).bind (·.dst) = o.dst := by rw [ho];rfl
 refine ⟨?_, ?_, ?_, ?_, ?_, ?_, ?_, ?_⟩
 ·cases hd : o.dst <;> simp [Act.put, inv.size]
 ·cases hd : o.dst <;> simp [Act.put, inv.defers]
 ·intro t u hu
  by_cases hd : o.dst = some t
  ·have hl : lastIn (fun k => (listed.setIfInBounds i true).getD k false) os m t = some i := by
    refine lastIn_put_eq (m := m) (by simp only [hS' i, if_true]) (by rw [hoi];exact hd) (fun k hk hkm hkd => ?_) m hi (Nat.le_refl _)
    simp only [hS' k, if_neg (show k ≠ i by omega)]
    cases hk' : listed.getD k false with
    | false => rfl
    | true =>
     obtain ⟨p, hp⟩ : ∃ p, os[k]? = some p := by
      cases hp : os[k]? with
      | none => rw [hp] at hkd;simp at hkd
      | some p => exact ⟨p, rfl⟩
     have hb := (hC.look i o ho hi k p t hp hkm (by omega) (by rw [hp] at hkd;exact hkd) (.inr hd)).2 hk
     have := inv.shut k i hk' hb
     rw [this] at hun;cases hun
   rw [hl] at hu
   simp only [hh, Option.some.injEq] at hu
   have hvu : v = u := by
    cases h with
    | val c => simp only [HV.of] at hu;rw [hv.1];exact hu
    | res V => simpa [HV.of] using hu
    | upd A V => simpa [HV.of] using hu
    | dep j V => simpa [HV.of] using hu
    | lnd j p V => simpa [HV.of] using hu
    | tak q T A V => simpa [HV.of] using hu
    | cpy k =>
     have hk := hcp k (by simp [HV.srcs])
     have hki : k ≠ i := by intro e;subst e;rw [hk] at hun;cases hun
     simp only [HV.of, if_neg hki] at hu
     rw [hv.1];exact hu
    | fn js f =>
     have hmp : js.map (fun k => if k = i then v else us k) = js.map us := List.map_congr_left fun k hkm => by
      have hk := hcp k hkm
      have hki : k ≠ i := by intro e;subst e;rw [hk] at hun;cases hun
      simp only [if_neg hki]
     simp only [HV.of] at hu
     rw [hmp] at hu
     rw [hv.1];exact hu
   subst hvu
   have hdn : t < n := by
    have := hC.dst i o ho hi
    rw [hd] at this
    have : t + 1 ≤ n := by simpa [okDst, Nat.blt, Nat.ble_eq] using this
    omega
   rw [hd]
   simp [Act.put, Array.getD_eq_getD_getElem?, inv.size, hdn]
  ·have hl := lastIn_put_ne (os := os) (S := fun k => listed.getD k false) (S' := fun k => (listed.setIfInBounds i true).getD k false) (i := i) (t := t) hne (by rw [hoi];exact hd) m
   rw [hl] at hu
   have hold : a.tmps.getD t undef = u := by
    refine inv.get t u ?_
    cases hc : lastIn (fun k => listed.getD k false) os m t with
    | none => rw [hc] at hu;exact hu
    | some k =>
     rw [hc] at hu
     obtain ⟨_, hk2, _⟩ := lastIn_spec hc
     have hki : k ≠ i := by intro e;subst e;rw [hk2] at hun;cases hun
     simp only [Option.some.injEq] at hu ⊢
     rw [← hu]
     cases hHk : H[k]? with
     | none => simp [HV.of, hki]
     | some x =>
      cases x with
      | val c => rfl
      | res V => simp [HV.of, hki]
      | upd A V => simp [HV.of, hki]
      | dep j V => simp [HV.of, hki]
      | lnd j p V => simp [HV.of, hki]
      | tak q T A V => simp [HV.of, hki]
      | cpy k1 =>
       have hk1 := inv.cp k _ k1 hk2 hHk (by simp [HV.srcs])
       have hk1i : k1 ≠ i := by intro e;subst e;rw [hk1] at hun;cases hun
       simp [HV.of, hk1i]
      | fn js f =>
       have hmp : js.map (fun k => if k = i then v else us k) = js.map us := List.map_congr_left fun k1 hkm => by
        have hk1 := inv.cp k _ k1 hk2 hHk hkm
        have hk1i : k1 ≠ i := by intro e;subst e;rw [hk1] at hun;cases hun
        simp only [if_neg hk1i]
       simp only [HV.of]
       rw [hmp]
   cases hdd : o.dst with
   | none => exact hold
   | some d =>
    have hdt : d ≠ t := by intro e;subst e;exact hd hdd
    simpa [Act.put, Array.getD_eq_getD_getElem?, Array.getElem?_setIfInBounds_ne hdt] using hold
 ·have hSeq : ∀ k, k ≠ i → (fun k => listed.getD k false) k = (fun k => (listed.setIfInBounds i true).getD k false) k ∧ us k = (fun k => if k = i then v else us k) k := fun k hk => ⟨(hne k hk).symm, by simp only [if_neg hk]⟩
  have hdep : ∀ k j' V, H[k]? = some (HV.dep j' V) → (fun k => listed.getD k false) (0 + k) = true → j' ≠ i := fun k j' V hk hs e => by
   have h2 := inv.cp k _ j' (by simpa using hs) hk (by simp [HV.srcs])
   rw [e, hun] at h2;cases h2
  have htk : h.isLnd = false → ∀ (k j' : Nat) (T : List HP) (A V : Value → HP), H[k]? = some (HV.tak j' T A V) → j' ≠ i := fun hl k j' T A V hk e => by
   obtain ⟨p0, this⟩ := hT k j' T A V hk
   rw [e, hh] at this
   injection this with this
   rw [this] at hl;cases hl
  cases h with
  | val c =>
   rw [resS_add_val (j := i) (hv := .val c) rfl hSeq (i := 0) (k := i) (by omega) hh hdep (htk rfl)]
   exact inv.st.call hv.2
  | fn c d =>
   rw [resS_add_val (j := i) (hv := .fn c d) rfl hSeq (i := 0) (k := i) (by omega) hh hdep (htk rfl)]
   exact inv.st.call hv.2
  | cpy c =>
   rw [resS_add_val (j := i) (hv := .cpy c) rfl hSeq (i := 0) (k := i) (by omega) hh hdep (htk rfl)]
   exact inv.st.call hv.2
  | res V =>
   refine (inv.st.call hv).sub ?_
   have := resS_add (hv := .res V) (V := V) (j := i) hun (by simp only [hS' i, if_true]) hSeq rfl rfl rfl (i := 0) (k := i) (L := L) (by omega) hh hdep (htk rfl)
   simpa using this
  | dep q V =>
   have hq : q ≠ i := fun e => by
    have h2 := hcp q (by simp [HV.srcs])
    rw [e, hun] at h2;cases h2
   refine (inv.st.call hv).sub ?_
   have := resS_add (hv := .dep q V) (V := V (us q)) (j := i) hun (by simp only [hS' i, if_true]) hSeq (by simp only [HV.own, if_neg hq]) rfl rfl (i := 0) (k := i) (L := L) (by omega) hh hdep (htk rfl)
   simpa using this
  | upd A V =>
   obtain ⟨h1, h2⟩ := hX A V rfl
   exact St.sub hv h2
  | tak q T A V => exact St.sub hv (hY q T A V rfl)
  | lnd c p A =>
   refine (inv.st.call hv).sub ?_
   have := resS_lnd (p := p) (S := fun k => listed.getD k false) (S' := fun k => (listed.setIfInBounds i true).getD k false) (s := i) (c := c) (A := A) hun (by simp only [hS' i, if_true]) hSeq (i := 0) (H := H) (L := L) (Nat.zero_le _) (fun k x hk e => by
    have : k = i := by omega
    subst this
    rw [hh] at hk
    injection hk with hk
    exact ⟨c, A, hk.symm⟩) hdep (fun k T' A' V hk => by
    obtain ⟨p0, this⟩ := hT k i T' A' V hk
    rw [hh] at this
    injection this with this
    injection this with h1 h0 h2
    subst h1
    refine ⟨by omega, h2.symm, ?_, hTl _ _ _ _ _ hk⟩
    cases hc : listed.getD c false with
    | false => rfl
    | true =>
     have := inv.cp c _ i hc hk (by simp [HV.srcs])
     rw [hun] at this;cases this)
   simpa using this
 ·intro k hk
  rw [hS' k] at hk
  by_cases e : k = i
  ·omega
  ·rw [if_neg e] at hk;exact inv.pre k hk
 ·intro k j hk hj
  rw [hS' j]
  split
  ·rfl
  ·rw [hS' k] at hk
   by_cases e : k = i
   ·subst e;exact hM j hj
   ·rw [if_neg e] at hk;exact inv.shut k j hk hj
 ·simp [inv.len]
 ·intro k hv k1 hk hH1 hk1
  rw [hS' k] at hk
  rw [hS' k1]
  split
  ·rfl
  ·by_cases e : k = i
   ·subst e
    rw [hh] at hH1
    injection hH1 with hH1;subst hH1
    exact hcp k1 hk1
   ·rw [if_neg e] at hk
    exact inv.cp k hv k1 hk hH1 hk1
theorem step_ok {Q : Exit → Act → World → Prop} {K : Act → World → Prop} {listed : Array Bool} {us : Nat → Value} {a : Act} {w : World} {i : Nat} {o : Oper} {h : HV} (hC : Chk n m os M) (inv : Inv df n m os l w0 L H M listed us a w)
  (hi : i < m) (ho : os[i]? = some o) (hun : listed.getD i false = false) (hedge : ∀ e ∈ o.after, Region.binds .any e = true → listed.getD e.on false = true)
  (hh : H[i]? = some h) (hT : ∀ (k j : Nat) (T : List HP) (A V : Value → HP), H[k]? = some (HV.tak j T A V) → ∃ p, H[j]? = some (.lnd k p A)) (hTl : ∀ (k j : Nat) (T : List HP) (A V : Value → HP), H[k]? = some (HV.tak j T A V) → j < k) (hob : Ob df P n os l w0 L i o (H.take i) h)
  (hK : ∀ us' a' w', Inv df n m os l w0 L H M (listed.setIfInBounds i true) us' a' w' → K a' w') : wpOpIn (FR rr) 0 P os.toArray Q i K a w := by
 have hM : ∀ j, (M.getD i 0).testBit j = true → listed.getD j false = true := by
  intro j hj
  rw [hC.mask i o ho, maskAt] at hj
  rcases maskAt_spec _ _ hj with h0 | ⟨e, he, hb, hj⟩
  ·simp at h0
  ·have he' := hedge e (by simpa using he) hb
   rcases hj with hj | hj
   ·subst hj;exact he'
   ·exact inv.shut _ _ he' hj
 have hwr : ∀ t, t ∈ o.looksAt os.toArray → ∀ k, k < m → k ≠ i → (os[k]?).bind (·.dst) = some t → (k < i → listed.getD k false = true) ∧ (i < k → listed.getD k false = false) := by
  intro t ht k hk hki hkd
  obtain ⟨p, hp⟩ : ∃ p, os[k]? = some p := by
   cases hp : os[k]? with
   | none => rw [hp] at hkd;simp at hkd
   | some p => exact ⟨p, rfl⟩
  have hl := hC.look i o ho hi k p t hp hk hki (by rw [hp] at hkd;exact hkd) (.inl ht)
  refine ⟨fun hlt => hM k (hl.1 hlt), fun hlt => ?_⟩
  cases hk' : listed.getD k false with
  | false => rfl
  | true => have := inv.shut k i hk' (hl.2 hlt);rw [this] at hun;cases hun
 have hview : ∀ t, t ∈ o.looksAt os.toArray → lastIn (fun k => listed.getD k false) os m t = lastW os i t := fun t ht =>
  (lastIn_view (m := m) (S := fun k => listed.getD k false) hun (hwr t ht) m (Nat.le_refl _)).2 (Nat.le_of_lt hi)
 have hkn : Kn df n a (vw os l (H.take i) i o us) := by
  refine ⟨inv.size, fun x v hx => ?_, inv.defers⟩
  unfold vw at hx
  rw [vwL_take] at hx
  obtain ⟨h1, h2⟩ := vwL_lk hx
  refine inv.get x v ?_
  rw [hview x h1]
  exact h2
 have hdep : depRd os (H.take i) i us w (o.looksAt os.toArray) := by
  refine depRd_of _ (fun t ht k V hk hV => ?_)
  obtain ⟨h1, _, h3⟩ := lastIn_spec hk
  have hs := (hwr t ht k (by omega) (by omega) h3).1 h1
  obtain ⟨L', hat⟩ := resS_mem (S := fun k => listed.getD k false) (us := us) (i := 0) (H := H) (L := L) (k := k) (by simpa using hs) hV
  have := inv.st.rd hat
  simpa using this
 have hdep2 : depRd2 os (H.take i) i us w (o.looksAt os.toArray) := by
  intro t ht k hk hv hHk j hj V hV
  obtain ⟨h1, _, h3⟩ := lastIn_spec hk
  have hs := (hwr t ht k (by omega) (by omega) h3).1 h1
  rw [List.getElem?_take, if_pos h1] at hHk
  have hs2 := inv.cp k hv j hs hHk hj
  have hV' : (H[j]?).bind (HV.own us) = some V := by
   rw [List.getElem?_take] at hV
   split at hV
   ·exact hV
   ·simp at hV
  obtain ⟨L', hat⟩ := resS_mem (S := fun k => listed.getD k false) (us := us) (i := 0) (H := H) (L := L) (k := j) (by simpa using hs2) hV'
  have := inv.st.rd hat
  simpa using this
 have hsz : i < listed.size := by rw [inv.len];exact Nat.lt_of_lt_of_le hi hC.le
 have hcp : ∀ k ∈ h.srcs, listed.getD k false = true := by
  intro k hk
  obtain ⟨t, j, ht, hl, hj⟩ := hob.1.1 k hk
  obtain ⟨h1, _, h3⟩ := lastIn_spec hl
  have hjl := (hwr t ht j (by omega) (by omega) h3).1 h1
  rcases hj with rfl | ⟨hv, hH, hs⟩
  ·exact hjl
  ·rw [List.getElem?_take, if_pos h1] at hH
   exact inv.cp j hv k hjl hH hs
 have hfrm : ∃ X, St w0 (h.preU us ++ X) w ∧ Sub L X ∧ ∀ v, (∀ A V, h = .upd A V → At A (resS (fun k => listed.getD k false) us 0 H L) X ∧ Sub (resS (fun k => (listed.setIfInBounds i true).getD k false) (fun k => if k = i then v else us k) 0 H L) (V v :: X)) ∧ (∀ q T A V, h = .tak q T A V → Sub (resS (fun k => (listed.setIfInBounds i true).getD k false) (fun k => if k = i then v else us k) 0 H L) (V v :: X)) := by
  have htk : h.isLnd = false → ∀ (k j' : Nat) (T : List HP) (A V : Value → HP), H[k]? = some (HV.tak j' T A V) → j' ≠ i := fun hl k j' T A V hk e => by
   obtain ⟨p0, this⟩ := hT k j' T A V hk
   rw [e, hh] at this
   injection this with this
   rw [this] at hl;cases hl
  cases h with
  | val c => exact ⟨_, inv.st, resS_sub, fun v => ⟨fun A V e => (by cases e), fun q T A V e => (by cases e)⟩⟩
  | fn c d => exact ⟨_, inv.st, resS_sub, fun v => ⟨fun A V e => (by cases e), fun q T A V e => (by cases e)⟩⟩
  | cpy c => exact ⟨_, inv.st, resS_sub, fun v => ⟨fun A V e => (by cases e), fun q T A V e => (by cases e)⟩⟩
  | res V => exact ⟨_, inv.st, resS_sub, fun v => ⟨fun A V e => (by cases e), fun q T A V e => (by cases e)⟩⟩
  | dep j V => exact ⟨_, inv.st, resS_sub, fun v => ⟨fun A V e => (by cases e), fun q T A V e => (by cases e)⟩⟩
  | lnd c p d => exact ⟨_, inv.st, resS_sub, fun v => ⟨fun A V e => (by cases e), fun q T A V e => (by cases e)⟩⟩
  | upd A V =>
   obtain ⟨X, h1, h2, h3⟩ := resS_upd (A := A) (V := V) (S := fun k => listed.getD k false) (S' := fun k => (listed.setIfInBounds i true).getD k false) (us := us) (j := i) hun (by simp only [getD_set listed i i hsz, if_true])
    (fun k hk => by simp only [getD_set listed i k hsz, if_neg hk]) (i := 0) (k := i) (H := H) (L := L) (by omega) hh (fun k j' V hk hs e => by
     have h2 := inv.cp k _ j' (by simpa using hs) hk (by simp [HV.srcs])
     rw [e, hun] at h2;cases h2) (htk rfl)
   refine ⟨X, ?_, h2, fun v => ⟨fun A' V' e => ?_, fun q T A V e => (by cases e)⟩⟩
   ·obtain ⟨F, hF, hSep⟩ := inv.st.own
    exact ⟨inv.st.below, inv.st.frz, F, hF, hSep.pull h1⟩
   ·cases e
    refine ⟨h1, ?_⟩
    have := h3 (fun k => if k = i then v else us k) (fun k hk => by simp only [if_neg hk])
    simpa using this
  | tak q T A V =>
   have hq := hcp q (by simp [HV.srcs])
   obtain ⟨X, h1, h2, h3⟩ := resS_tak (q0 := q) (T0 := T) (A := A) (V := V) (S := fun k => listed.getD k false) (S' := fun k => (listed.setIfInBounds i true).getD k false) (us := us) (j := i) hun hq (by simp only [getD_set listed i i hsz, if_true])
    (fun k hk => by simp only [getD_set listed i k hsz, if_neg hk]) (i := 0) (k := i) (H := H) (L := L) (by omega) hh (fun k j' V hk hs e => by
     have h2 := inv.cp k _ j' (by simpa using hs) hk (by simp [HV.srcs])
     rw [e, hun] at h2;cases h2) (htk rfl)
   refine ⟨X, ?_, h2, fun v => ⟨fun A V e => (by cases e), fun q' T' A' V' e => ?_⟩⟩
   ·exact inv.st.sub h1
   ·cases e
    have := h3 (fun k => if k = i then v else us k) (fun k hk => by simp only [if_neg hk])
    simpa using this
 obtain ⟨X, hst, hLX, hupd⟩ := hfrm
 have ho' : os.toArray[i]? = some o := by simpa using ho
 unfold wpOpIn
 simp only [ho']
 rcases hob.2 us a w X hkn hdep hst hLX hdep2 with ⟨hg, hu⟩ | ⟨hg, hgv⟩
 ·have hw := wanted_of (o := o) hkn hg
  rw [hw]
  simp only [Bool.false_eq_true, if_false]
  exact ⟨fun _ _ => trivial, hK _ _ _ (inv_put hC inv hi ho hun hM hh hT hTl (X := X) (hupd _).1 (hupd _).2 hcp (by rw [hu];exact ⟨rfl, St.refl w⟩))⟩
 ·have hw := wanted_of (o := o) hkn hg
  rw [hw]
  simp only [if_true]
  exact hgv.wp (fun v w' hv => hK _ _ _ (inv_put hC inv hi ho hun hM hh hT hTl (X := X) (hupd _).1 (hupd _).2 hcp hv))
theorem lk_finK {us : Nat → Value} : ∀ (r : List Oper) (i : Nat) (H1 : List HV) (l' : List (Nat × Value)), H1.length = r.length → (∀ j, r[j]? = os[i + j]? ∨ r.length ≤ j) → (∀ j h, H1[j]? = some h → H[i + j]? = some h) →
    ∀ t, lk (finK us i r H1 l') t = match lastIn (fun k => !Nat.blt k i) os (i + r.length) t with
      | some k => some (HV.of H[k]? us k)
      | none => lk l' t
  | [], i, H1, l', hl, _, _, t => by
    cases H1 with
    | cons x xs => simp at hl
    | nil =>
      have : ∀ j, j ≤ i → lastIn (fun k => !Nat.blt k i) os j t = none := by
        intro j
        induction j with
        | zero => intro _; rfl
        | succ j ih =>
          intro hj
          unfold lastIn
          have : Nat.blt j i = true := by simp [Nat.blt, Nat.ble_eq]; omega
          simp [this, ih (by omega)]
      simp [finK, this i (Nat.le_refl _)]
  | o :: r, i, [], l', hl, _, _, t => by simp at hl
  | o :: r, i, h :: H1, l', hl, hr, hH, t => by
    have ih := lk_finK (us := us) r (i + 1) H1 (putK o.dst (HV.of (some h) us i) l') (by simpa using hl)
      (fun j => by
        rcases hr (j + 1) with h1 | h1
        · left; simpa [Nat.add_assoc, Nat.add_comm 1 j] using h1
        · right; simp at h1; omega)
      (fun j h hh => by have := hH (j + 1) h (by simpa using hh); simpa [Nat.add_assoc, Nat.add_comm 1 j] using this) t
    have e0 : os[i]? = some o := by
      rcases hr 0 with h1 | h1
      · simpa using h1.symm
      · simp at h1
    have eh : H[i]? = some h := by have := hH 0 h rfl; simpa using this
    simp only [finK]
    rw [ih]
    have hlen : i + (o :: r).length = i + 1 + r.length := by simp; omega
    rw [hlen]
    have key : ∀ j, i + 1 ≤ j → lastIn (fun k => !Nat.blt k i) os j t = match lastIn (fun k => !Nat.blt k (i + 1)) os j t with
        | some k => some k
        | none => if (os[i]?).bind (·.dst) = some t then some i else none := by
      intro j
      induction j with
      | zero => intro h; omega
      | succ j ihj =>
        intro hj
        have eA : lastIn (fun k => !Nat.blt k i) os (j + 1) t = if ((!Nat.blt j i) && ((os[j]?).bind (·.dst) == some t)) = true then some j else lastIn (fun k => !Nat.blt k i) os j t := rfl
        have eB : lastIn (fun k => !Nat.blt k (i + 1)) os (j + 1) t = if ((!Nat.blt j (i + 1)) && ((os[j]?).bind (·.dst) == some t)) = true then some j else lastIn (fun k => !Nat.blt k (i + 1)) os j t := rfl
        by_cases e : j = i
        · subst e
          have h1 : Nat.blt j j = false := by
            cases hb : Nat.blt j j with
            | false => rfl
            | true => have : j + 1 ≤ j := by simpa [Nat.blt, Nat.ble_eq] using hb
                      omega
          have h2 : Nat.blt j (j + 1) = true := by simp [Nat.blt, Nat.ble_eq]
          have none1 : ∀ j', j' ≤ j + 1 → lastIn (fun k => !Nat.blt k (j + 1)) os j' t = none := by
            intro j'
            induction j' with
            | zero => intro _; rfl
            | succ j' ih' =>
              intro hj'
              unfold lastIn
              have : Nat.blt j' (j + 1) = true := by simp [Nat.blt, Nat.ble_eq]; omega
              simp [this, ih' (by omega)]
          have none0 : ∀ j', j' ≤ j → lastIn (fun k => !Nat.blt k j) os j' t = none := by
            intro j'
            induction j' with
            | zero => intro _; rfl
            | succ j' ih' =>
              intro hj'
              unfold lastIn
              have : Nat.blt j' j = true := by simp [Nat.blt, Nat.ble_eq]; omega
              simp [this, ih' (by omega)]
          rw [eA, none1 (j + 1) (Nat.le_refl _), none0 j (Nat.le_refl _)]
          simp [h1]
        · have h1 : Nat.blt j i = false := by
            cases hb : Nat.blt j i with
            | false => rfl
            | true => have : j + 1 ≤ i := by simpa [Nat.blt, Nat.ble_eq] using hb
                      omega
          have h2 : Nat.blt j (i + 1) = false := by
            cases hb : Nat.blt j (i + 1) with
            | false => rfl
            | true => have : j + 1 ≤ i + 1 := by simpa [Nat.blt, Nat.ble_eq] using hb
                      omega
          rw [eA, eB, h1, h2, ihj (by omega)]
          split <;> rfl
    rw [key (i + 1 + r.length) (by omega)]
    cases hcase : lastIn (fun k => !Nat.blt k (i + 1)) os (i + 1 + r.length) t with
    | some k => rfl
    | none =>
      simp only [e0, Option.bind_some]
      by_cases hd : o.dst = some t
      · rw [if_pos hd, hd]
        simp only [putK, lk_cons_same, eh]
      · rw [if_neg hd]
        cases hdd : o.dst with
        | none => rfl
        | some d => simp only [putK]; exact lk_cons_ne _ _ (fun e => hd (by rw [hdd, e]))
theorem count_false_set {listed : Array Bool} {i : Nat} (hi : i < listed.size) (hun : listed.getD i false = false) : (listed.setIfInBounds i true).toList.count false + 1 = listed.toList.count false := by
 have h1 : listed.toList[i]'(by simpa using hi) = false := by
  simpa [Array.getD_eq_getD_getElem?, hi] using hun
 have hpos : 0 < listed.toList.count false := by
  rw [List.count_pos_iff]
  have hmem := List.getElem_mem (l := listed.toList) (n := i) (by simpa using hi)
  rw [h1] at hmem
  exact hmem
 rw [Array.toList_setIfInBounds, List.count_set (by simpa using hi), h1]
 have e1 : (if (false == false) = true then 1 else 0) = 1 := rfl
 have e2 : (if (true == false) = true then 1 else 0) = 0 := rfl
 rw [e1, e2]
 omega
theorem all_listed {listed : Array Bool} (h : listed.toList.count false = 0) {k : Nat} (hk : k < listed.size) : listed.getD k false = true := by
 rw [List.count_eq_zero] at h
 cases hv : listed.getD k false with
 | true => rfl
 | false =>
  have : listed[k] = false := by simpa [Array.getD_eq_getD_getElem?, hk] using hv
  exact absurd (by rw [← this];simp) h
theorem ready_spec {listed : Array Bool} (hl : listed.size = os.length) {i : Nat} (h : i ∈ Region.ready .any os.toArray listed) : ∃ o, os[i]? = some o ∧ listed.getD i false = false ∧ ∀ e ∈ o.after, Region.binds .any e = true → listed.getD e.on false = true := by
 simp only [Region.ready, List.mem_filter, List.mem_range, List.size_toArray, Bool.and_eq_true] at h
 obtain ⟨h1, h2, h3⟩ := h
 have ho : os[i]? = some os[i] := List.getElem?_eq_getElem h1
 refine ⟨os[i], ho, ?_, ?_⟩
 ·have hi : i < listed.size := by omega
  simpa [Array.getD_eq_getD_getElem?, hi] using h2
 ·intro e he hb
  simp only [List.getElem?_toArray, ho, Option.map_some, Option.getD_some, Array.all_eq_true_iff_forall_mem] at h3
  have := h3 e he
  rw [hb] at this
  simpa using this
theorem ready_mem {listed : Array Bool} (hl : listed.size = os.length) {i : Nat} {o : Oper} (ho : os[i]? = some o) (hun : listed.getD i false = false) (he : ∀ e ∈ o.after, Region.binds .any e = true → listed.getD e.on false = true) :
  i ∈ Region.ready .any os.toArray listed := by
 have hi : i < os.length := by
  rcases Nat.lt_or_ge i os.length with h | h
  ·exact h
  ·rw [List.getElem?_eq_none h] at ho;cases ho
 simp only [Region.ready, List.mem_filter, List.mem_range, List.size_toArray, Bool.and_eq_true]
 refine ⟨hi, ?_, ?_⟩
 ·have hi' : i < listed.size := by omega
  have : listed.getD i true = listed.getD i false := by simp [Array.getD_eq_getD_getElem?, hi']
  rw [this, hun];rfl
 ·simp only [List.getElem?_toArray, ho, Option.map_some, Option.getD_some, Array.all_eq_true_iff_forall_mem]
  intro e hm
  cases hb : Region.binds .any e with
  | false => rfl
  | true => simp [he e hm hb]
theorem tail_ok {Q : Exit → Act → World → Prop} (hC : Chk n m os M) : ∀ (fuel j : Nat) (listed : Array Bool) (a : Act) (w : World), m ≤ j → listed.size = os.length → (∀ k, k < os.length → listed.getD k false = decide (k < j)) → listed.toList.count false ≤ fuel →
  wpListIn (FR rr) 0 P os.toArray Q (os.drop j) a w → wpAnyIn (FR rr) 0 P .any os.toArray Q fuel listed a w := by
 intro fuel
 induction fuel with
 | zero =>
  intro j listed a w hmj hl hp hc h
  have hj : os.length ≤ j := by
   rcases Nat.lt_or_ge j os.length with h' | h'
   ·have := all_listed (listed := listed) (by omega) (k := j) (by omega)
    rw [hp j h'] at this;simp at this
   ·exact h'
  refine ⟨?_, ?_⟩
  ·refine List.eq_nil_iff_forall_not_mem.2 (fun i hi => ?_)
   obtain ⟨o, ho, hun, _⟩ := ready_spec hl hi
   have hi' : i < os.length := by
    rcases Nat.lt_or_ge i os.length with h | h
    ·exact h
    ·rw [List.getElem?_eq_none h] at ho;cases ho
   rw [hp i hi'] at hun
   simp at hun;omega
  ·rw [List.drop_eq_nil_of_le hj] at h;exact h
 | succ fuel ih =>
  intro j listed a w hmj hl hp hc h
  have hready : ∀ (hj : j < os.length), j ∈ Region.ready .any os.toArray listed := fun hj =>
   ready_mem hl (List.getElem?_eq_getElem hj) (by rw [hp j hj];simp) (fun e he hb => by
    have := hC.edge j _ (List.getElem?_eq_getElem hj) e he hb
    rw [hp e.on (by omega)];simpa using this)
  refine ⟨fun hr => ?_, fun i hi => ?_⟩
  ·rcases Nat.lt_or_ge j os.length with hj | hj
   ·have := hready hj;rw [hr] at this;cases this
   ·rw [List.drop_eq_nil_of_le hj] at h;exact h
  ·obtain ⟨o, ho, hun, hedge⟩ := ready_spec hl hi
   have hi' : i < os.length := by
    rcases Nat.lt_or_ge i os.length with h | h
    ·exact h
    ·rw [List.getElem?_eq_none h] at ho;cases ho
   have hij : j ≤ i := by rw [hp i hi'] at hun;simpa using hun
   have hbits : ∀ k, (M.getD i 0).testBit k = true → k < os.length → k < j := by
    have main : ∀ i o, os[i]? = some o → (∀ e ∈ o.after, Region.binds .any e = true → listed.getD e.on false = true) → ∀ k, k < os.length → (M.getD i 0).testBit k = true → k < j := by
     intro i
     induction i using Nat.strongRecOn with
     | _ i ihi =>
      intro o ho hed k hk hb
      rw [hC.mask i o ho, maskAt] at hb
      rcases maskAt_spec _ _ hb with h0 | ⟨e, he, hbe, hj⟩
      ·simp at h0
      ·have he' : e ∈ o.after := by simpa using he
       have hlt := hC.edge i o ho e he' hbe
       have hio : i < os.length := by
        rcases Nat.lt_or_ge i os.length with h | h
        ·exact h
        ·rw [List.getElem?_eq_none h] at ho;cases ho
       have hl' := hed e he' hbe
       rw [hp e.on (by omega)] at hl'
       have hej : e.on < j := by simpa using hl'
       rcases hj with hj | hj
       ·omega
       ·obtain ⟨oe, hoe⟩ : ∃ oe, os[e.on]? = some oe := ⟨_, List.getElem?_eq_getElem (by omega)⟩
        refine ihi e.on hlt oe hoe (fun e2 he2 hb2 => ?_) k hk hj
        have := hC.edge e.on oe hoe e2 he2 hb2
        rw [hp e2.on (by omega)];simp;omega
    exact fun k hb hk => main i o ho hedge k hk hb
   have hij' : i = j := by
    rcases Nat.lt_or_ge j i with hlt | hge
    ·have := hbits j (hC.tail i o ho (by omega) j hlt) (by omega)
     omega
    ·omega
   subst hij'
   have hdrop : os.drop i = o :: os.drop (i + 1) := by
    rw [List.drop_eq_getElem_cons hi']
    congr 1
    rw [List.getElem?_eq_getElem hi'] at ho
    injection ho
   rw [hdrop] at h
   have ho' : os.toArray[i]? = some o := by simpa using ho
   have next : ∀ a w, wpListIn (FR rr) 0 P os.toArray Q (os.drop (i + 1)) a w → wpAnyIn (FR rr) 0 P .any os.toArray Q fuel (listed.setIfInBounds i true) a w := fun a w h =>
    ih (i + 1) _ a w (by omega) (by simp [hl]) (fun k hk => by
     rw [getD_set listed i k (by omega)]
     split
     ·subst_vars;simp
     ·rw [hp k hk]
      by_cases hki : k < i
      ·simp [hki, show k < i + 1 by omega]
      ·simp [hki, show ¬ k < i + 1 by omega]) (by have := count_false_set (listed := listed) (i := i) (by omega) hun;omega) h
   unfold wpOpIn
   simp only [ho']
   unfold wpListIn at h
   split
   ·rename_i hw
    rw [if_pos hw] at h
    exact Oper.wpIn_mono next h
   ·rename_i hw
    rw [if_neg hw] at h
    exact ⟨fun _ _ => trivial, next _ _ h.2⟩
theorem main_ok {Q : Exit → Act → World → Prop} (hC : Chk n m os M) (hH : H.length = m)
  (hob : ∀ i o, os[i]? = some o → i < m → ∃ h, H[i]? = some h ∧ Ob df P n os l w0 L i o (H.take i) h)
  (fin : ∀ us a w, Kn df n a (finK us 0 (os.take m) H l) → St w0 (resA us 0 H L) w → wpListIn (FR rr) 0 P os.toArray Q (os.drop m) a w) :
  ∀ (fuel : Nat) (listed : Array Bool) (us : Nat → Value) (a : Act) (w : World), Inv df n m os l w0 L H M listed us a w → listed.toList.count false ≤ fuel → wpAnyIn (FR rr) 0 P .any os.toArray Q fuel listed a w := by
 have hTT : ∀ (k j : Nat) (T : List HP) (A V : Value → HP), H[k]? = some (HV.tak j T A V) → (∃ p, H[j]? = some (.lnd k p A)) ∧ j < k := by
  intro k j T A V hk
  have hkm : k < m := by
   rcases Nat.lt_or_ge k H.length with h | h
   ·omega
   ·rw [List.getElem?_eq_none h] at hk;cases hk
  have hko : k < os.length := Nat.lt_of_lt_of_le hkm hC.le
  obtain ⟨h, h1, h2⟩ := hob k _ (List.getElem?_eq_getElem hko) hkm
  rw [hk] at h1
  injection h1 with h1
  obtain ⟨p0, this⟩ := h2.1.2 j T A V h1.symm
  rw [List.getElem?_take] at this
  split at this
  ·exact ⟨⟨p0, this⟩, by assumption⟩
  ·cases this
 have hT : ∀ (k j : Nat) (T : List HP) (A V : Value → HP), H[k]? = some (HV.tak j T A V) → ∃ p, H[j]? = some (.lnd k p A) := fun k j T A V h => (hTT k j T A V h).1
 have hTl : ∀ (k j : Nat) (T : List HP) (A V : Value → HP), H[k]? = some (HV.tak j T A V) → j < k := fun k j T A V h => (hTT k j T A V h).2
 have finish : ∀ (listed : Array Bool) us a w, Inv df n m os l w0 L H M listed us a w → (∀ k, k < m → listed.getD k false = true) → wpListIn (FR rr) 0 P os.toArray Q (os.drop m) a w := by
  intro listed us a w inv hall
  refine fin us a w ⟨inv.size, fun t v hv => inv.get t v ?_, inv.defers⟩ ?_
  ·have hlen : (os.take m).length = m := by rw [List.length_take];have := hC.le;omega
   have := lk_finK (os := os) (H := H) (us := us) (os.take m) 0 H l (by rw [hlen, hH]) (fun j => by
    rcases Nat.lt_or_ge j m with h | h
    ·left;rw [List.getElem?_take, if_pos h];simp
    ·right;omega) (fun j h hh => by simpa using hh) t
   rw [this, hlen, Nat.zero_add] at hv
   have heq : ∀ j, j ≤ m → lastIn (fun k => listed.getD k false) os j t = lastIn (fun k => !Nat.blt k 0) os j t := by
    intro j
    induction j with
    | zero => intro _;rfl
    | succ j ih =>
     intro hj
     unfold lastIn
     rw [ih (by omega), hall j (by omega)]
     have : Nat.blt j 0 = false := rfl
     simp [this]
   rw [heq m (Nat.le_refl _)]
   exact hv
  ·have := resS_all (S := fun k => listed.getD k false) (us := us) (i := 0) (H := H) (L := L) (fun k _ h2 => hall k (by omega))
   rw [← this]
   exact inv.st
 intro fuel
 induction fuel with
 | zero =>
  intro listed us a w inv hc
  have hall : ∀ k, k < os.length → listed.getD k false = true := fun k hk => all_listed (listed := listed) (by omega) (by rw [inv.len];exact hk)
  have hm : os.length ≤ m := by
   rcases Nat.lt_or_ge m os.length with h | h
   ·have := inv.pre m (hall m h);omega
   ·exact h
  have hf := finish listed us a w inv (fun k hk => hall k (Nat.lt_of_lt_of_le hk hC.le))
  rw [List.drop_eq_nil_of_le hm] at hf
  refine ⟨List.eq_nil_iff_forall_not_mem.2 (fun i hi => ?_), hf⟩
  obtain ⟨o, ho, hun, _⟩ := ready_spec inv.len hi
  have hi' : i < os.length := by
   rcases Nat.lt_or_ge i os.length with h | h
   ·exact h
   ·rw [List.getElem?_eq_none h] at ho;cases ho
  rw [hall i hi'] at hun;cases hun
 | succ fuel ih =>
  intro listed us a w inv hc
  refine ⟨fun hr => ?_, fun i hi => ?_⟩
  ·have hall : ∀ k, k < os.length → listed.getD k false = true := by
    intro k
    induction k using Nat.strongRecOn with
    | _ k ihk =>
     intro hk
     cases hv : listed.getD k false with
     | true => rfl
     | false =>
      have := ready_mem inv.len (List.getElem?_eq_getElem hk) hv (fun e he hb => by
       have hlt := hC.edge k _ (List.getElem?_eq_getElem hk) e he hb
       exact ihk e.on hlt (by omega))
      rw [hr] at this;cases this
   have hm : os.length ≤ m := by
    rcases Nat.lt_or_ge m os.length with h | h
    ·have := inv.pre m (hall m h);omega
    ·exact h
   have hf := finish listed us a w inv (fun k hk => hall k (Nat.lt_of_lt_of_le hk hC.le))
   rw [List.drop_eq_nil_of_le hm] at hf
   exact hf
  ·obtain ⟨o, ho, hun, hedge⟩ := ready_spec inv.len hi
   have hi' : i < os.length := by
    rcases Nat.lt_or_ge i os.length with h | h
    ·exact h
    ·rw [List.getElem?_eq_none h] at ho;cases ho
   rcases Nat.lt_or_ge i m with him | him
   ·obtain ⟨h, hh, hob'⟩ := hob i o ho him
    exact step_ok hC inv him ho hun hedge hh hT hTl hob' (fun us' a' w' inv' => ih _ us' a' w' inv' (by
     have := count_false_set (listed := listed) (i := i) (by rw [inv.len];exact hi') hun;omega))
   ·-- the prefix is through
    have hM : ∀ j, (M.getD i 0).testBit j = true → listed.getD j false = true := by
     intro j hj
     rw [hC.mask i o ho, maskAt] at hj
     rcases maskAt_spec _ _ hj with h0 | ⟨e, he, hb, hj⟩
     ·simp at h0
     ·have he' := hedge e (by simpa using he) hb
      rcases hj with hj | hj
      ·subst hj;exact he'
      ·exact inv.shut _ _ he' hj
    have hall : ∀ k, k < m → listed.getD k false = true := fun k hk => hM k (hC.tail i o ho him k (by omega))
    have hp : ∀ k, k < os.length → listed.getD k false = decide (k < m) := by
     intro k _
     by_cases hk : k < m
     ·rw [hall k hk];simp [hk]
     ·cases hv : listed.getD k false with
      | true => exact absurd (inv.pre k hv) hk
      | false => simp [hk]
    exact (tail_ok hC (fuel + 1) m listed a w (Nat.le_refl _) inv.len hp hc (finish listed us a w inv hall)).2 i hi
theorem wp_region_drawn (m : Nat) {id : Nat} {Q : Exit → Act → World → Prop} {a : Act} {w : World} (hm : P.follows .mixedOrders = true) (hc : chk os m n = true) (hk : Kn df n a l) {L0 : List HP} (hS : St w0 L0 w)
  (h : Obx df P n os l w0 L (fun H => toks H L = L0 ∧ ∀ us a w, Kn df n a (finK us 0 (os.take m) H l) → St w0 (resA us 0 H L) w → wpListIn (FR rr) 0 P os.toArray Q (os.drop m) a w) 0 (os.take m) []) :
  (Code.region id os.toArray true).wpIn (FR rr) 0 P Q a w := by
 have hC := Chk.of hc
 obtain ⟨H, h1, h2, h3⟩ := Obx_get _ _ _ h
 have hlen : (os.take m).length = m := by rw [List.length_take];have := hC.le;omega
 refine wpIn_region_any hm ?_
 refine main_ok hC (H := H) (by rw [h1, hlen]) (fun i o ho hi => ?_) (by simpa using h3.2) _ _ (fun _ => undef) _ _ ⟨hk.size, hk.defers, ?_, ?_, ?_, ?_, by simp, ?_⟩ ?_
 ·obtain ⟨h, ha, hb⟩ := h2 i o (by rw [List.getElem?_take, if_pos hi];exact ho)
  exact ⟨h, ha, by simpa using hb⟩
 ·intro t v hv
  have : lastIn (fun k => (Array.replicate os.toArray.size false).getD k false) os m t = none := by
   have : ∀ j, lastIn (fun k => (Array.replicate os.toArray.size false).getD k false) os j t = none := by
    intro j
    induction j with
    | zero => rfl
    | succ j ih =>
     unfold lastIn
     rw [ih]
     have : (Array.replicate os.toArray.size false).getD j false = false := by
      simp [Array.getD_eq_getD_getElem?, Array.getElem?_replicate]
      split <;> rfl
     rw [this];rfl
   exact this m
  rw [this] at hv
  exact hk.get t v hv
 ·rw [resS_none (fun k => by simp [Array.getD_eq_getD_getElem?, Array.getElem?_replicate];split <;> rfl)]
  have h4 : toks H L = L0 := by simpa using h3.1
  rw [h4]
  exact hS.drew
 ·intro k hk'
  exfalso
  have : (Array.replicate os.toArray.size false).getD k false = false := by
   simp [Array.getD_eq_getD_getElem?, Array.getElem?_replicate]
   split <;> rfl
  rw [this] at hk';cases hk'
 ·intro k j hk' _
  exfalso
  have : (Array.replicate os.toArray.size false).getD k false = false := by
   simp [Array.getD_eq_getD_getElem?, Array.getElem?_replicate]
   split <;> rfl
  rw [this] at hk';cases hk'
 ·intro k _ k1 hk' _ _
  exfalso
  have : (Array.replicate os.toArray.size false).getD k false = false := by
   simp [Array.getD_eq_getD_getElem?, Array.getElem?_replicate]
   split <;> rfl
  rw [this] at hk';cases hk'
 ·simp
end
end Go.Proofs.YtnjmonkehjlaoaaGreatDoor

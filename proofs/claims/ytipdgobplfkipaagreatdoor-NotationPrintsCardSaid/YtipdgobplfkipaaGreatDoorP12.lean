/- Layer 8, plain: a word of an element's, by the program and by the reader: the same. Layer 8, plain: what the reader's walk needs of tokens and words. A region that draws its order, by hand: an operation that only gives a value may be taken first. -/
import Derived.Test.YtipdgobplfkipaaGreatDoorP11
import Derived.Test.YtipdgobplfkipaaGreatDoorP07
set_option linter.all false
namespace Go.Proofs.YtipdgobplfkipaaGreatDoor

theorem from_good {seen more : List ByteArray} {m m' : Itm} {x : Option ByteArray} (hs : ∀ y ∈ seen, GoodK y) (hx : ∀ z, x = some z → GoodK z) (h : fromO seen (some m) x = some (m', more)) : ∀ y ∈ more, GoodK y := by
  cases x with
  | none => injection h with h; injection h with _ h; subst h; exact hs
  | some z =>
    have h' : (if seen.any (fun y => decide (y = z)) = true then none else some (m, seen ++ [z])) = some (m', more) := h
    by_cases hz : seen.any (fun y => decide (y = z)) = true
    · rw [if_pos hz] at h'; cases h'
    · rw [if_neg hz] at h'
      injection h' with h'; injection h' with _ h'; subst h'
      intro y hy
      rcases List.mem_append.1 hy with hy | hy
      · exact hs y hy
      · rw [List.mem_singleton] at hy; subst hy; exact hx y rfl
abbrev ItmEq (n : Itm) (w : ByteArray) (seen : List ByteArray) : Prop := (itemF n w seen).map toP = itmP n w (seen.map keyP) ∧ ∀ m more, itemF n w seen = some (m, more) → ∀ y ∈ more, GoodK y
theorem eq_none {n : Itm} {w : ByteArray} {seen : List ByteArray} (ha : addF n w = none) (hp : itmP n w (seen.map keyP) = none) : ItmEq n w seen := by
  have e : itemF n w seen = none := by rw [item_from, ha]; rfl
  exact ⟨by rw [e, hp]; rfl, fun m more h => by rw [e] at h; cases h⟩
theorem eq_some {n m : Itm} {w x : ByteArray} {seen : List ByteArray} (hs : ∀ y ∈ seen, GoodK y) (ha : addF n w = some m) (hx : whatF w = some x) (hg : GoodK x) (hp : itmP n w (seen.map keyP) = onceP (seen.map keyP) (some (m, keyP x))) : ItmEq n w seen := by
  have e : itemF n w seen = fromO seen (some m) (some x) := by rw [item_from, ha, hx]
  exact ⟨by rw [e, hp]; exact from_once hs hg, fun m' more h => by rw [e] at h; exact from_good hs (fun z hz => by injection hz with hz; rw [← hz]; exact hg) h⟩
theorem pre_list (c : UInt8) (x : ByteArray) : ((⟨#[c]⟩ : ByteArray) ++ x).data.toList = c :: x.data.toList := by simp [ByteArray.data_append]
theorem pre_eq (nm : ByteArray) (k : List UInt8) : ((⟨#[33]⟩ : ByteArray) ++ nm) = ⟨⟨33 :: k⟩⟩ ↔ nm = ⟨⟨k⟩⟩ := by
  constructor
  · intro e
    apply baeq
    have : ((⟨#[33]⟩ : ByteArray) ++ nm).data.toList = 33 :: k := by rw [e]
    rw [pre_list] at this
    injection this
  · intro e; subst e; apply baeq; rw [pre_list]
theorem pre_key (nm : ByteArray) : keyP ((⟨#[33]⟩ : ByteArray) ++ nm) = nm := by
  unfold keyP
  rw [pre_list]
  apply baeq
  show (⟨nm.data.toList.toArray⟩ : ByteArray).data.toList = _
  simp
theorem good33 {nm : ByteArray} {c : UInt8} {q : List UInt8} (h : nm.data.toList = c :: q) (hc : c.toNat ≠ 35 ∧ c.toNat ≠ 64 ∧ c.toNat ≠ 61 ∧ c.toNat ≠ 33) : GoodK ((⟨#[33]⟩ : ByteArray) ++ nm) :=
  .inr (.inr (.inr ⟨nm.data.toList, pre_list 33 nm, c, q, h, hc⟩))
theorem u8_of_nat {c d : UInt8} (h : c.toNat = d.toNat) : c = d := UInt8.toNat_inj.1 h

set_option maxHeartbeats 4000000 in
theorem item_eq {n : Itm} {w : ByteArray} {seen : List ByteArray} (hs : ∀ y ∈ seen, GoodK y) : ItmEq n w seen := by
  cases hw : w.data.toList with
  | nil => exact eq_none (by unfold addF; rw [hw]) (by unfold itmP; rw [hw])
  | cons c q =>
    by_cases c35 : c.toNat = 35
    · have e := u8_of_nat (d := 35) c35
      subst e
      have ha : addF n w = if keyS (w.extract 1 w.size) = true then some { n with key := w.extract 1 w.size } else none := by unfold addF; rw [hw]; simp only [if_pos c35]
      have hx : whatF w = some ⟨#[35]⟩ := by unfold whatF; rw [hw]; rfl
      have hp : itmP n w (seen.map keyP) = onceP (α := Itm) (seen.map keyP) (if keyS (w.extract 1 w.size) = true then some ({ n with key := w.extract 1 w.size }, ⟨#[35]⟩) else none) := by unfold itmP; rw [hw]; simp only [if_pos c35]
      by_cases hk : keyS (w.extract 1 w.size) = true
      · rw [if_pos hk] at ha hp
        exact eq_some hs ha hx (.inl rfl) hp
      · rw [if_neg hk] at ha hp
        exact eq_none ha hp
    · by_cases c46 : c.toNat = 46
      · have e := u8_of_nat (d := 46) c46
        subst e
        have ha : addF n w = if nameS (w.extract 1 w.size) = true then some { n with cl := n.cl ++ [w.extract 1 w.size] } else none := by unfold addF; rw [hw]; simp only [if_neg c35, if_pos c46]
        have hx : whatF w = none := by unfold whatF; rw [hw]; rfl
        have hp : itmP n w (seen.map keyP) = if nameS (w.extract 1 w.size) = true then some ({ n with cl := n.cl ++ [w.extract 1 w.size] }, seen.map keyP) else none := by unfold itmP; rw [hw]; simp only [if_neg c35, if_pos c46]
        by_cases hk : nameS (w.extract 1 w.size) = true
        · rw [if_pos hk] at ha hp
          have e : itemF n w seen = some ({ n with cl := n.cl ++ [w.extract 1 w.size] }, seen) := by rw [item_from, ha, hx]; rfl
          exact ⟨by rw [e, hp]; rfl, fun m more h => by rw [e] at h; injection h with h; injection h with _ h; subst h; exact hs⟩
        · rw [if_neg hk] at ha hp
          exact eq_none ha hp
      · by_cases c64 : c.toNat = 64
        · have e := u8_of_nat (d := 64) c64
          subst e
          have ha : addF n w = match cutE (w.extract 1 w.size) with
            | some (a, v) => if nameS a = true ∧ valS v = true then some { n with al := n.al ++ [(a, v)] } else none
            | none => none := by
            unfold addF; rw [hw]; simp only [if_neg c35, if_neg c46, if_pos c64]
            rcases cutE (w.extract 1 w.size) with _ | ⟨a, v⟩ <;> rfl
          have hx : whatF w = some (nmE w) := by unfold whatF; rw [hw]; rfl
          have hp : itmP n w (seen.map keyP) = onceP (α := Itm) (seen.map keyP) (if (cutR 61 (w.extract 1 w.size)).2.2 = true ∧ nameS (cutR 61 (w.extract 1 w.size)).1 = true ∧ valS (cutR 61 (w.extract 1 w.size)).2.1 = true then some ({ n with al := n.al ++ [((cutR 61 (w.extract 1 w.size)).1, (cutR 61 (w.extract 1 w.size)).2.1)] }, ⟨#[64]⟩ ++ (cutR 61 (w.extract 1 w.size)).1) else none) := by unfold itmP; rw [hw]; simp only [if_neg c35, if_neg c46, if_pos c64]
          rw [cutR_eq] at ha
          rw [cutR_nm, cut_cons hw (by decide)] at hx
          generalize (cutR 61 (w.extract 1 w.size)).2.2 = is at *
          generalize (cutR 61 (w.extract 1 w.size)).2.1 = va at *
          generalize (cutR 61 (w.extract 1 w.size)).1 = nm at *
          cases is with
          | false =>
            rw [if_neg (by rintro ⟨h, -⟩; cases h)] at hp
            exact eq_none ha hp
          | true =>
            rw [if_pos rfl] at ha
            by_cases hk : nameS nm = true ∧ valS va = true
            · rw [if_pos ⟨rfl, hk.1, hk.2⟩] at hp
              have ha' : addF n w = some { n with al := n.al ++ [(nm, va)] } := by rw [ha]; exact if_pos hk
              have hkp : keyP ((⟨#[64]⟩ : ByteArray) ++ nm) = ⟨#[64]⟩ ++ nm := by unfold keyP; rw [pre_list]; rfl
              exact eq_some hs ha' hx (.inr (.inl ⟨_, pre_list 64 nm⟩)) (by rw [hkp]; exact hp)
            · rw [if_neg (fun h => hk ⟨h.2.1, h.2.2⟩)] at hp
              exact eq_none (by rw [ha]; exact if_neg hk) hp
        · by_cases c33 : c.toNat = 33
          · have e := u8_of_nat (d := 33) c33
            subst e
            have hp : itmP n w (seen.map keyP) = onceP (α := Itm) (seen.map keyP) ((optP n.k n.o (w.extract 1 w.size)).map fun x => ({ n with k := x.1.1, o := x.1.2 }, x.2)) := by unfold itmP; rw [hw]; simp only [if_neg c35, if_neg c46, if_neg c64, if_pos c33]
            have ha : addF n w = addF n w := rfl
            conv at ha => rhs; unfold addF
            rw [hw] at ha
            simp only at ha
            rw [if_neg c35, if_neg c46, if_neg c64, if_pos c33] at ha
            have hx : whatF w = whatF w := rfl
            conv at hx => rhs; unfold whatF
            rw [hw] at hx
            simp only at hx
            have hnm := cutR_nm w
            have hce := cutR_eq w
            have hcc := cut_cons hw (by decide)
            have gGroup : w = wGroup ↔ w.extract 1 w.size = kGroup := mark_eq hw [103, 114, 111, 117, 112]
            have gSlot : w = wSlot ↔ w.extract 1 w.size = kSlot := mark_eq hw [115, 108, 111, 116]
            have gOutIn : w = wOutIn ↔ w.extract 1 w.size = kOutIn := mark_eq hw [111, 117, 116, 45, 105, 110]
            have gInOut : w = wInOut ↔ w.extract 1 w.size = kInOut := mark_eq hw [105, 110, 45, 111, 117, 116]
            have gAppear : w = wAppear ↔ w.extract 1 w.size = kAppear := mark_eq hw [97, 112, 112, 101, 97, 114]
            have gMoves : w = wMoves ↔ w.extract 1 w.size = kMoves := mark_eq hw [109, 111, 118, 101, 115]
            have hopt : optP n.k n.o (w.extract 1 w.size) = optP n.k n.o (w.extract 1 w.size) := rfl
            conv at hopt => rhs; unfold optP
            have nis : ∀ z, (cutR 61 z).2.2 = false → w.extract 1 w.size = z → (cutR 61 (w.extract 1 w.size)).2.2 = false := fun z h e => by rw [e]; exact h
            have iGroup := nis kGroup (by kernel_rfl)
            have iSlot := nis kSlot (by kernel_rfl)
            have iOutIn := nis kOutIn (by kernel_rfl)
            have iInOut := nis kInOut (by kernel_rfl)
            have iAppear := nis kAppear (by kernel_rfl)
            have iMoves := nis kMoves (by kernel_rfl)
            clear nis
            change whatF w = (if w = wGroup ∨ w = wSlot then some (⟨#[33]⟩ ++ kKind) else if w = wOutIn ∨ w = wInOut then some (⟨#[33]⟩ ++ kMode) else some (nmE w)) at hx
            simp only [gGroup, gSlot, gOutIn, gInOut] at hx
            simp only [gGroup, gSlot, gOutIn, gInOut, gAppear, gMoves] at ha
            rw [hcc] at hnm hce
            have hwe : w = (⟨#[33]⟩ : ByteArray) ++ w.extract 1 w.size := by
              apply baeq
              rw [pre_list, hw]
              have hsz : w.size = q.length + 1 := by have : w.data.toList.length = w.size := by simp
                                                     rw [← this, hw]; rfl
              simp [ByteArray.data_extract, hw, hsz]
            have hnc : (cutR 61 (w.extract 1 w.size)).2.2 = false → (cutR 61 (w.extract 1 w.size)).1 = w.extract 1 w.size := fun h => by
              unfold cutR at h ⊢
              split at h
              · cases h
              · rename_i hh; rw [if_neg hh]
            generalize (cutR 61 (w.extract 1 w.size)).2.2 = is at *
            generalize (cutR 61 (w.extract 1 w.size)).2.1 = va at *
            generalize (cutR 61 (w.extract 1 w.size)).1 = nm at *
            generalize optP n.k n.o (w.extract 1 w.size) = res at *
            generalize w.extract 1 w.size = r at *
            cases is with
            | true =>
              have jGroup : ¬ r = kGroup := fun e => by have := iGroup e; cases this
              have jSlot : ¬ r = kSlot := fun e => by have := iSlot e; cases this
              have jOutIn : ¬ r = kOutIn := fun e => by have := iOutIn e; cases this
              have jInOut : ¬ r = kInOut := fun e => by have := iInOut e; cases this
              have jAppear : ¬ r = kAppear := fun e => by have := iAppear e; cases this
              have jMoves : ¬ r = kMoves := fun e => by have := iMoves e; cases this
              rw [if_pos rfl] at hopt hce
              rw [if_neg jGroup, if_neg jSlot, if_neg jOutIn, if_neg jInOut, if_neg jAppear, if_neg jMoves, hce] at ha
              rw [if_neg (fun h => h.elim jGroup jSlot), if_neg (fun h => h.elim jOutIn jInOut), hnm] at hx
              simp only at ha
              have pE : (⟨#[33]⟩ : ByteArray) ++ nm = wEnter ↔ nm = kEnter := pre_eq nm [101, 110, 116, 101, 114]
              have pL : (⟨#[33]⟩ : ByteArray) ++ nm = wLeave ↔ nm = kLeave := pre_eq nm [108, 101, 97, 118, 101]
              have pM : (⟨#[33]⟩ : ByteArray) ++ nm = wMove ↔ nm = kMove := pre_eq nm [109, 111, 118, 101]
              simp only [pE, pL, pM] at ha
              by_cases hok : (numP va.data.toList).2 = true
              · rw [if_pos hok] at ha
                by_cases hkEnter : nm = kEnter
                · rw [if_pos hkEnter] at ha hopt
                  rw [if_pos hok] at hopt
                  subst hopt
                  refine eq_some hs ha hx ?_ (by rw [hp, pre_key, hkEnter]; rfl)
                  rw [hkEnter]; exact good33 (c := 101) rfl (by decide)
                · rw [if_neg hkEnter] at ha hopt
                  by_cases hkLeave : nm = kLeave
                  · rw [if_pos hkLeave] at ha hopt
                    rw [if_pos hok] at hopt
                    subst hopt
                    refine eq_some hs ha hx ?_ (by rw [hp, pre_key, hkLeave]; rfl)
                    rw [hkLeave]; exact good33 (c := 108) rfl (by decide)
                  · rw [if_neg hkLeave] at ha hopt
                    by_cases hkMove : nm = kMove
                    · rw [if_pos hkMove] at ha hopt
                      rw [if_pos hok] at hopt
                      subst hopt
                      refine eq_some hs ha hx ?_ (by rw [hp, pre_key, hkMove]; rfl)
                      rw [hkMove]; exact good33 (c := 109) rfl (by decide)
                    · rw [if_neg hkMove] at ha hopt
                      subst hopt
                      exact eq_none ha hp
              · rw [if_neg hok] at ha
                have hres : res = none := by rw [hopt]; simp only [if_neg hok, ite_self]
                subst hres
                exact eq_none ha hp
            | false =>
              rw [if_neg (by decide)] at hopt hce
              have hnr := hnc rfl
              rw [hnr] at hnm
              rw [hce] at ha
              simp only at ha
              by_cases hG : r = kGroup
              · rw [if_pos hG] at ha hopt; rw [if_pos (.inl hG)] at hx; subst hopt
                exact eq_some hs ha hx (good33 (c := 107) rfl (by decide)) (by rw [hp, pre_key]; rfl)
              by_cases hSl : r = kSlot
              · rw [if_neg hG, if_pos hSl] at ha hopt; rw [if_pos (.inr hSl)] at hx; subst hopt
                exact eq_some hs ha hx (good33 (c := 107) rfl (by decide)) (by rw [hp, pre_key]; rfl)
              rw [if_neg hG, if_neg hSl] at ha hopt
              rw [if_neg (fun h => h.elim hG hSl)] at hx
              by_cases hO : r = kOutIn
              · have hA : ¬ r = kAppear := fun e => by rw [hO] at e; exact absurd (congrArg (fun z : ByteArray => z.data.toList) e) (by decide)
                have hM : ¬ r = kMoves := fun e => by rw [hO] at e; exact absurd (congrArg (fun z : ByteArray => z.data.toList) e) (by decide)
                rw [if_pos hO] at ha; rw [if_neg hA, if_neg hM, if_pos hO] at hopt; rw [if_pos (.inl hO)] at hx; subst hopt
                exact eq_some hs ha hx (good33 (c := 109) rfl (by decide)) (by rw [hp, pre_key]; rfl)
              by_cases hI : r = kInOut
              · have hA : ¬ r = kAppear := fun e => by rw [hI] at e; exact absurd (congrArg (fun z : ByteArray => z.data.toList) e) (by decide)
                have hM : ¬ r = kMoves := fun e => by rw [hI] at e; exact absurd (congrArg (fun z : ByteArray => z.data.toList) e) (by decide)
                rw [if_neg hO, if_pos hI] at ha; rw [if_neg hA, if_neg hM, if_neg hO, if_pos hI] at hopt; rw [if_pos (.inr hI)] at hx; subst hopt
                exact eq_some hs ha hx (good33 (c := 109) rfl (by decide)) (by rw [hp, pre_key]; rfl)
              rw [if_neg hO, if_neg hI] at ha
              rw [if_neg (fun h => h.elim hO hI), hnm] at hx
              by_cases hA : r = kAppear
              · rw [if_pos hA] at ha hopt; subst hopt
                refine eq_some hs ha hx ?_ (by rw [hp, pre_key, hA]; rfl)
                rw [hA]; exact good33 (c := 97) rfl (by decide)
              by_cases hM : r = kMoves
              · rw [if_neg hA, if_pos hM] at ha hopt; subst hopt
                refine eq_some hs ha hx ?_ (by rw [hp, pre_key, hM]; rfl)
                rw [hM]; exact good33 (c := 109) rfl (by decide)
              rw [if_neg hA, if_neg hM] at ha hopt
              rw [if_neg hO, if_neg hI] at hopt
              subst hopt
              exact eq_none ha hp
          · have ne : ∀ {d : UInt8} {k : Nat}, d.toNat = k → c.toNat ≠ k → c ≠ d := fun h1 h2 e => h2 (by rw [e]; exact h1)
            have ha : addF n w = match cutE w with
              | some (a, v) => if nameS a = true ∧ (numP v.data.toList).2 = true then some { n with sl := n.sl ++ [(a, (numP v.data.toList).1)] } else none
              | none => none := by
              unfold addF; rw [hw]; simp only [if_neg c35, if_neg c46, if_neg c64, if_neg c33]
              rcases cutE w with _ | ⟨a, v⟩ <;> rfl
            have hx : whatF w = some (⟨#[61]⟩ ++ nmE w) := by
              unfold whatF; rw [hw]
              split
              · rename_i h; injection h with h _; exact absurd h (ne (d := 46) rfl c46)
              · rename_i h; injection h with h _; exact absurd h (ne (d := 35) rfl c35)
              · rename_i h; injection h with h _; exact absurd h (ne (d := 64) rfl c64)
              · rename_i h; injection h with h _; exact absurd h (ne (d := 33) rfl c33)
              · rfl
            have hp : itmP n w (seen.map keyP) = onceP (α := Itm) (seen.map keyP) (if (cutR 61 w).2.2 = true ∧ (numP (cutR 61 w).2.1.data.toList).2 = true ∧ nameS (cutR 61 w).1 = true then some ({ n with sl := n.sl ++ [((cutR 61 w).1, (numP (cutR 61 w).2.1.data.toList).1)] }, ⟨#[61]⟩ ++ (cutR 61 w).1) else none) := by
              unfold itmP; rw [hw]; simp only [if_neg c35, if_neg c46, if_neg c64, if_neg c33]
            rw [cutR_eq] at ha
            rw [cutR_nm] at hx
            generalize (cutR 61 w).2.2 = is at *
            generalize (cutR 61 w).2.1 = va at *
            generalize (cutR 61 w).1 = nm at *
            cases is with
            | false =>
              rw [if_neg (by rintro ⟨h, -⟩; cases h)] at hp
              exact eq_none ha hp
            | true =>
              rw [if_pos rfl] at ha
              by_cases hk : nameS nm = true ∧ (numP va.data.toList).2 = true
              · rw [if_pos ⟨rfl, hk.2, hk.1⟩] at hp
                have ha' : addF n w = some { n with sl := n.sl ++ [(nm, (numP va.data.toList).1)] } := by rw [ha]; exact if_pos hk
                have hkp : keyP ((⟨#[61]⟩ : ByteArray) ++ nm) = ⟨#[61]⟩ ++ nm := by unfold keyP; rw [pre_list]; rfl
                exact eq_some hs ha' hx (.inr (.inr (.inl ⟨_, pre_list 61 nm⟩))) (by rw [hkp]; exact hp)
              · rw [if_neg (fun h => hk ⟨h.2.2, h.2.1⟩)] at hp
                exact eq_none (by rw [ha]; exact if_neg hk) hp
end Go.Proofs.YtipdgobplfkipaaGreatDoor
namespace Go.Proofs.YtipdgobplfkipaaGreatDoor

theorem tok_at_ {s : ByteArray} {i : Nat} (hi : i ≤ s.size) : (tokF s i).at_ = scan blkB s i := by
  by_cases hj : scan blkB s i < s.size
  · by_cases n1 : s[scan blkB s i].toNat = 40
    · rw [tok_1 hj n1]
    · by_cases n2 : s[scan blkB s i].toNat = 41
      · rw [tok_2 hj n2]
      · by_cases n3 : s[scan blkB s i].toNat = 39
        · by_cases n4 : scan nqB s (scan blkB s i + 1) < s.size ∧ (s.extract (scan blkB s i + 1) (scan nqB s (scan blkB s i + 1))).data.toList.all priL = true
          · rw [tok_3 hj n3 n4]
          · rw [tok_5 hj n3 n4]
        · by_cases hv : visB s[scan blkB s i] = true
          · rw [tok_4 hj hv]
          · rw [tok_6 hj n1 n2 n3 hv]
  · have h1 := scan_le blkB s _ i (Nat.le_refl _) hi
    rw [tok_e hj]; show s.size = _; omega
theorem tok_else {s : ByteArray} {i : Nat} (h : ∀ hj : scan blkB s i < s.size, s[scan blkB s i].toNat ≠ 39 ∧ s[scan blkB s i].toNat ≠ 40 ∧ s[scan blkB s i].toNat ≠ 41) :
    (tokF s i).kind ≠ 1 ∧ (tokF s i).kind ≠ 2 ∧ (tokF s i).kind ≠ 3 := by
  by_cases hj : scan blkB s i < s.size
  · obtain ⟨n3, n1, n2⟩ := h hj
    by_cases hv : visB s[scan blkB s i] = true
    · rw [tok_4 hj hv]; exact ⟨by show (4 : Nat) ≠ _; decide, by show (4 : Nat) ≠ _; decide, by show (4 : Nat) ≠ _; decide⟩
    · rw [tok_6 hj n1 n2 n3 hv]; exact ⟨by show (5 : Nat) ≠ _; decide, by show (5 : Nat) ≠ _; decide, by show (5 : Nat) ≠ _; decide⟩
  · rw [tok_e hj]; exact ⟨by show (0 : Nat) ≠ _; decide, by show (0 : Nat) ≠ _; decide, by show (0 : Nat) ≠ _; decide⟩
theorem tok_q {s : ByteArray} {i : Nat} (hj : scan blkB s i < s.size) (n3 : s[scan blkB s i].toNat = 39) : (tokF s i).kind = 3 ∨ (tokF s i).kind = 5 := by
  by_cases n4 : scan nqB s (scan blkB s i + 1) < s.size ∧ (s.extract (scan blkB s i + 1) (scan nqB s (scan blkB s i + 1))).data.toList.all priL = true
  · rw [tok_3 hj n3 n4]; exact .inl rfl
  · rw [tok_5 hj n3 n4]; exact .inr rfl
theorem tok_w {s : ByteArray} {i : Nat} (hi : i ≤ s.size) (h : (tokF s i).kind = 4) : 0 < (tokF s i).txt.size ∧ (tokF s i).txt.size ≤ s.size := by
  have hge := scan_ge visB s _ (scan blkB s i) (Nat.le_refl _)
  have hle := scan_le visB s _ (scan blkB s i) (Nat.le_refl _) (scan_le blkB s _ i (Nat.le_refl _) hi)
  by_cases hlt : scan blkB s i < scan visB s (scan blkB s i)
  · rw [tok_word hlt]
    simp only [ByteArray.size_extract]
    omega
  · exact absurd h (tok_noword hi (by omega)).1
theorem view_scan (s : ByteArray) (f i op : Nat) : viewF s (f + 1) (scan blkB s i) op = viewF s (f + 1) i op := by
  simp only [viewF]
  rw [tok_scan]
theorem some_len {n m x : Itm} (h : some x = some m) (hx : x.cl.length ≤ n.cl.length + 1 ∧ x.al.length ≤ n.al.length + 1 ∧ x.sl.length ≤ n.sl.length + 1) : m.cl.length ≤ n.cl.length + 1 ∧ m.al.length ≤ n.al.length + 1 ∧ m.sl.length ≤ n.sl.length + 1 := by
  injection h with h; subst h; exact hx
theorem ite_len {n m x : Itm} {p : Prop} [Decidable p] {r : Option Itm} (h : (if p then some x else r) = some m) (hx : x.cl.length ≤ n.cl.length + 1 ∧ x.al.length ≤ n.al.length + 1 ∧ x.sl.length ≤ n.sl.length + 1)
    (hr : r = some m → m.cl.length ≤ n.cl.length + 1 ∧ m.al.length ≤ n.al.length + 1 ∧ m.sl.length ≤ n.sl.length + 1) : m.cl.length ≤ n.cl.length + 1 ∧ m.al.length ≤ n.al.length + 1 ∧ m.sl.length ≤ n.sl.length + 1 := by
  by_cases hp : p
  · rw [if_pos hp] at h; exact some_len h hx
  · rw [if_neg hp] at h; exact hr h
theorem add_len {n m : Itm} {w : ByteArray} (h : addF n w = some m) : m.cl.length ≤ n.cl.length + 1 ∧ m.al.length ≤ n.al.length + 1 ∧ m.sl.length ≤ n.sl.length + 1 := by
  have no : (none : Option Itm) = some m → m.cl.length ≤ n.cl.length + 1 ∧ m.al.length ≤ n.al.length + 1 ∧ m.sl.length ≤ n.sl.length + 1 := fun h => by cases h
  unfold addF at h
  cases hw : w.data.toList with
  | nil => rw [hw] at h; cases h
  | cons c q =>
    rw [hw] at h
    simp only at h
    by_cases h35 : c.toNat = 35
    · rw [if_pos h35] at h; exact ite_len h (by simp) no
    · rw [if_neg h35] at h
      by_cases h46 : c.toNat = 46
      · rw [if_pos h46] at h; exact ite_len h (by simp) no
      · rw [if_neg h46] at h
        by_cases h64 : c.toNat = 64
        · rw [if_pos h64] at h
          cases hc : cutE (w.extract 1 w.size) with
          | none => rw [hc] at h; cases h
          | some y => obtain ⟨a, v⟩ := y; rw [hc] at h; exact ite_len h (by simp) no
        · rw [if_neg h64] at h
          by_cases h33 : c.toNat = 33
          · rw [if_pos h33] at h
            refine ite_len h (by simp) (fun h => ite_len h (by simp) (fun h => ite_len h (by simp) (fun h => ite_len h (by simp) (fun h => ite_len h (by simp) (fun h => ite_len h (by simp) (fun h => ?_))))))
            cases hc : cutE w with
            | none => rw [hc] at h; cases h
            | some y =>
              obtain ⟨a, v⟩ := y
              rw [hc] at h
              simp only at h
              by_cases hk : (numP v.data.toList).2 = true
              · rw [if_pos hk] at h
                exact ite_len h (by simp) (fun h => ite_len h (by simp) (fun h => ite_len h (by simp) no))
              · rw [if_neg hk] at h; cases h
          · rw [if_neg h33] at h
            cases hc : cutE w with
            | none => rw [hc] at h; cases h
            | some y => obtain ⟨a, v⟩ := y; rw [hc] at h; exact ite_len h (by simp) no
theorem item_len {n m : Itm} {w : ByteArray} {seen more : List ByteArray} (h : itemF n w seen = some (m, more)) : m.cl.length ≤ n.cl.length + 1 ∧ m.al.length ≤ n.al.length + 1 ∧ m.sl.length ≤ n.sl.length + 1 := by
  rw [item_from] at h
  cases ha : addF n w with
  | none => rw [ha] at h; cases h
  | some y =>
    rw [ha] at h
    have : y = m := by
      cases hx : whatF w with
      | none => rw [hx] at h; injection h with h; injection h
      | some z =>
        rw [hx] at h
        have h' : (if seen.any (fun y => decide (y = z)) = true then none else some (y, seen ++ [z])) = some (m, more) := h
        split at h'
        · cases h'
        · injection h' with h'; injection h'
    subst this
    exact add_len ha
mutual
def snapT : Tree → Tree
  | .mk k tag key text cl al sl o kids => .mk k tag key text cl (snapF nmS al) (snapF nmI sl) o (snapTs kids)
def snapTs : List Tree → List Tree
  | [] => []
  | t :: ts => snapT t :: snapTs ts
end
theorem snapTs_app : ∀ (a b : List Tree), snapTs (a ++ b) = snapTs a ++ snapTs b
  | [], b => rfl
  | t :: a, b => by rw [List.cons_append, snapTs, snapTs, snapTs_app a b]; rfl
theorem snapTs_len : ∀ a : List Tree, (snapTs a).length = a.length
  | [] => rfl
  | t :: a => by rw [snapTs, List.length_cons, snapTs_len a, List.length_cons]
end Go.Proofs.YtipdgobplfkipaaGreatDoor
namespace Go.Proofs.YtipdgobplfkipaaGreatDoor
open Go.RowKit
section
variable {P : Program} {Q : Exit → Act → World → Prop} {a : Act} {w w' : World} {n : Nat} {l : List (Nat × Value)} {df : List Deferred} {rr : Option Nat} {ops : Array Oper} {K : Act → World → Prop}
  {d : Nat} {dst : Option Nat} {ty : TypeId} {pos : String} {af : Array Edge} {g : Option (Nat × Bool)} {K1 : Act → World → Prop} {S1 : List PanicEntry → World → Prop}
def QX (df : List Deferred) (K1 : Act → World → Prop) (S1 : List PanicEntry → World → Prop) (e : Exit) (a : Act) (w : World) : Prop := (e = .normal ∧ K1 a w) ∨ ∃ ch, e = .panic ch ∧ a.defers = df ∧ S1 ch w
theorem QX.normal (h : K1 a w) : QX df K1 S1 .normal a w := .inl ⟨rfl, h⟩
theorem QX.panic {ch : List PanicEntry} (hk : Kn df n a l) (h : S1 ch w) : QX df K1 S1 (.panic ch) a w := .inr ⟨ch, rfl, hk.defers, h⟩
theorem qx_put {o : Option Nat} {v : Value} {c : List PanicEntry} (h : QX df K1 S1 (.panic c) (a.put o v) w) : QX df K1 S1 (.panic c) a w := by
  rcases h with ⟨h, _⟩ | ⟨ch, h1, h2, h3⟩
  · cases h
  · refine .inr ⟨ch, h1, ?_, h3⟩
    rw [← h2]; cases o <;> rfl
theorem an_region {id : Nat} (K1 : Act → World → Prop) (S1 : List PanicEntry → World → Prop) (hk : Kn df n a l) (hm : P.follows .mixedOrders = true) (hn : ∀ a w, K1 a w → Q .normal a w) (hp : ∀ ch a w, a.defers = df → S1 ch w → Q (.panic ch) a w)
    (h : Any rr P ops (QX df K1 S1) ops.size (Array.replicate ops.size false) a w.drew) : (Code.region id ops true).wpIn (FR rr) 0 P Q a w := by
  refine wpIn_mono (wpIn_region_any (Q := QX df K1 S1) hm h) (fun e a w hq => ?_)
  rcases hq with ⟨rfl, h⟩ | ⟨ch, rfl, h1, h2⟩
  · exact hn _ _ h
  · exact hp _ _ _ h1 h2
theorem an_take {o : Op} {k i : Nat} {v : Value} {listed : Array Bool} (ho : ops[i]? = some ⟨some d, o, ty, pos, af, none⟩) (hk : Kn df n a l) (hs : Region.noSelect ops = true) (hf : Region.free .any ops listed i = true) (hr : (Region.ready .any ops listed).contains i = true)
    (hp : ∀ w, (execOp a.eval ⟨some d, o, ty, pos, af, none⟩).run P w = .ok (.value v) w) (hab : ∀ w, (⟨some d, o, ty, pos, af, none⟩ : Oper).about P w a.eval = none) (hd : Nat.blt d n = true)
    (h : ∀ a', Kn df n a' ((d, v) :: l) → Any rr P ops (QX df K1 S1) k (listed.setIfInBounds i true) a' w) (hro : rr = none) : Any rr P ops (QX df K1 S1) (k + 1) listed a w := by
  subst hro
  exact wpAnyIn_take (F := FR none) rfl ho hs hf hr (fun c a w => qx_put) ⟨.inl ⟨wanted_none rfl _, hp⟩, hab⟩ (h _ (hk.put (d := some d) hd v))
theorem an_cut {k0 : Nat} {l0 : Array Bool} (J : Act → World → Prop) (k : Nat) (listed : Array Bool) (hJ : ∀ a w, J a w → Any rr P ops Q k listed a w) (h : (∀ a w, J a w → Any rr P ops Q k listed a w) → Any rr P ops Q k0 l0 a w) : Any rr P ops Q k0 l0 a w := h hJ
theorem wp_mid {x y : Code} (R' : Act → World → Prop) (h1 : x.wpIn (FR rr) 0 P (Exit.then R' Q) a w) (h2 : ∀ a w, R' a w → y.wpIn (FR rr) 0 P Q a w) : (Code.seq x y).wpIn (FR rr) 0 P Q a w :=
  wpIn_seq (wpIn_mono h1 (fun e a w h => by cases e <;> first | exact h2 _ _ h | exact h))
theorem y_move {x : Operand} {v : Value} (hk : Kn df n a l) (hx : ev l x = some v) : ∀ w, (execOp a.eval ⟨dst, .move x, ty, pos, af, g⟩).run P w = .ok (.value v) w := fun w => by rw [← hk.eval hx]; rfl
theorem y_field {x : Operand} {T : TypeId} {f b o off sz : Nat} (hk : Kn df n a l) (hf : fldOf P T f = some (off, sz + 1)) (hx : ev l x = some (.pointer (some ⟨b, o, none⟩))) :
    ∀ w, (execOp a.eval ⟨dst, .fieldAddr T x f, ty, pos, af, g⟩).run P w = .ok (.value (.pointer (some ⟨b, o + off, none⟩))) w := fun w => by
  unfold fldOf at hf
  cases hu : P.underlying T with
  | none => rw [hu] at hf; simp at hf
  | some dsc =>
    rw [hu] at hf
    cases dsc <;> simp only [reduceCtorEq] at hf
    case struct fs =>
      cases hfs : fs[f]? with
      | none => rw [hfs] at hf; simp at hf
      | some fl =>
        rw [hfs] at hf
        simp only [Option.some.injEq, Prod.mk.injEq] at hf
        obtain ⟨h1, h2⟩ := hf
        have h3 : szOf P fl.type = some (sz + 1) := by
          cases hz : szOf P fl.type with
          | none => rw [hz] at h2; simp at h2
          | some z => rw [hz] at h2; simp at h2; rw [h2]
        simp [execOp, hk.eval hx, Instr.fieldAt, run_underlying hu, hfs, Instr.sureAddr, fieldPlace, szOf_run h3, h1, addr_add]
theorem y_len {x : Operand} {t E m c : Nat} {ao : Option Addr} (hk : Kn df n a l) (ht : elOf P t = some E) (hx : ev l x = some (.slice ao m c)) :
    ∀ w, (execOp a.eval ⟨dst, .call { callee := .builtin .len, args := #[x], argTypes := #[t] }, ty, pos, af, g⟩).run P w = .ok (.value (.int .i64 m)) w := fun w => by
  simp [execOp, resolve, invoke, builtin, hk.eval hx, Builtin.len_, run_underlying (elOf_und ht), goInt]
theorem ab_len {x : Operand} {ts : Array TypeId} {ρ : Operand → Value} : ∀ w, (⟨dst, .call { callee := .builtin .len, args := #[x], argTypes := ts }, ty, pos, af, g⟩ : Oper).about P w ρ = none := fun w => by
  simp [Oper.about, resolve, Target.leads]
end
end Go.Proofs.YtipdgobplfkipaaGreatDoor

/- The top, a kid's life, plain: what its calls do, what waits, and what is told. Rows of one's own at known places: parts of them, copies into them, room, and whether two lie apart. -/
import Derived.Test.YthodcfdgahfniaaGreatV06
import Derived.Lib.Overlaps
import Derived.Lib.AppendZerosOnto
set_option linter.all false
namespace Go.Proofs.YthodcfdgahfniaaGreat

structure PS where
  k : Int
  m : Int
  x : Int
  y : Int
  d : Int
  e : Int
structure PO where
  s : PS
  hk : List Int
  j : Int
  mj : Int
  en : Bool
  me : Bool
  go : Bool
def outP (s : PS) : PO := ⟨s, [], 0, 0, false, false, false⟩
def unmvP (o : PO) : PO := if o.s.m = 0 then o else { o with s := { o.s with m := 0, x := 0, y := 0, e := 0 }, me := true }
def tellP (o : PO) (l : List Int) : PO := { o with hk := o.hk ++ l }
def toP (o : PO) (k d : Int) : PO := { o with s := { o.s with k := k, d := d } }
def overP (o : PO) (k : Int) : PO := toP { o with en := true } k 0
def startP (o : PO) (f on d : Int) (once : Bool) : PO := if once = true then toP { unmvP o with j := 2 } on d else toP { unmvP o with j := 1 } f d
def entrP (s : PS) (d : Int) (once : Bool) : PO := if s.k = 1 then startP (tellP (outP s) [1, 2]) 2 3 d once else outP s
def brokenP (s : PS) : PO := if s.k = 2 ∨ s.k = 3 then overP (tellP (outP s) [4]) 0 else outP s
def leaveP (s : PS) (d : Int) (once : Bool) : PO := if (brokenP s).s.k = 0 ∨ (brokenP s).s.k = 4 then startP (tellP (brokenP s) [5, 6]) 5 6 d once else outP s
def holdP (s : PS) : PO := if (brokenP s).s.k = 0 then toP (unmvP (brokenP s)) 4 0 else outP s
def returnP (s : PS) : PO := if s.k = 5 ∨ s.k = 6 then overP (tellP (outP s) [8]) 1 else if s.k = 4 then toP (outP s) 0 s.d else outP s
def frameP (s : PS) : PO := if s.k = 2 ∨ s.k = 5 then toP { outP s with j := 2 } (s.k + 1) s.d else outP s
def endP (s : PS) (h : Int) : PO := if s.k = 2 ∨ s.k = 3 then overP (tellP (outP s) [h]) 0 else if s.k = 5 ∨ s.k = 6 then tellP { outP s with en := true, go := true } [7] else outP s
def finishP (s : PS) : PO := if s.k = 3 ∨ s.k = 6 then endP s 3 else outP s
def cancelP (s : PS) : PO := unmvP (endP s 4)
def settleP (s : PS) : PO := { cancelP s with go := (cancelP s).go || decide (s.k = 1) || decide (s.k = 4) }
def shiftP (s : PS) (dx dy d : Int) : PO := if s.k = 0 ∧ ¬ (dx = 0 ∧ dy = 0) then { unmvP (outP s) with s := { (unmvP (outP s)).s with m := 1, x := dx, y := dy, e := d }, mj := 1 } else outP s
def mframeP (s : PS) : PO := if s.m = 1 then { outP s with s := { s with m := 2, x := 0, y := 0 }, mj := 2 } else outP s
def mfinishP (s : PS) : PO := if s.m = 2 then unmvP (outP s) else outP s
def callP (s : PS) (c dur dx dy : Int) (once : Bool) : PO :=
  if c = 0 then entrP s dur once else if c = 1 then leaveP s dur once else if c = 2 then holdP s else if c = 3 then returnP s else if c = 4 then frameP s
  else if c = 5 then finishP s else if c = 6 then cancelP s else if c = 7 then settleP s else if c = 8 then shiftP s dx dy dur else if c = 9 then mframeP s else mfinishP s

inductive Wt where
  | no
  | q1 (t k : Int)
  | q0 (t k : Int)
  | tm (t d k : Int)
structure KS where
  s : PS
  now : Int
  wl : Int
  ql : Int
  w : Wt
  job : Bool × Int
  mv : Bool × Int
  told : List Int
  gone : Bool
def cutW (r : Bool × Int) : Wt → Wt
  | .no => .no
  | .q1 t k => if r.1 = true ∧ r.2 = t then .no else .q1 t k
  | .q0 t k => if r.1 = true ∧ r.2 = t then .no else .q0 t k
  | .tm t d k => if r.1 = false ∧ r.2 = t then .no else .tm t d k
def laterP (now d : Int) : Int := min (max 0 (min now 1099511627776) + max 0 (min d 1099511627776)) 1099511627776
def askK (ks : KS) (what dur kind : Int) : KS := if what = 1 then { ks with ql := ks.ql + 1, w := .q1 (ks.ql + 1) kind } else if what = 2 then { ks with wl := ks.wl + 1, w := .tm (ks.wl + 1) (laterP ks.now dur) kind } else ks
def refK (ks : KS) (what : Int) (r : Bool × Int) : Bool × Int := if what = 1 then (true, ks.ql + 1) else if what = 2 then (false, ks.wl + 1) else r
def offK (ks : KS) (o : PO) : KS :=
  { ks with s := o.s, told := ks.told ++ o.hk, gone := o.go, w := if (o.me || o.go) = true then cutW ks.mv (if (o.en || o.go) = true then cutW ks.job ks.w else ks.w) else (if (o.en || o.go) = true then cutW ks.job ks.w else ks.w) }
def jobK (ks : KS) (o : PO) : KS := { askK (offK ks o) o.j o.s.d 1 with job := refK (offK ks o) o.j ks.job }
def doneK (ks : KS) (o : PO) : KS := { askK (jobK ks o) o.mj o.s.e 2 with mv := refK (jobK ks o) o.mj ks.mv }
def askable (ks : KS) (o : PO) : Prop := (o.j = 1 ∨ o.j = 2 → (offK ks o).w = .no) ∧ (o.mj = 1 ∨ o.mj = 2 → (jobK ks o).w = .no)
def dueO (k : Int) (s : PS) : PO := if k = 1 then frameP s else mframeP s
def frameK (ks : KS) : KS := match ks.w with
  | .no => ks
  | .q1 t k => { ks with w := .q0 t k }
  | .q0 _ k => doneK { ks with w := .no } (dueO k ks.s)
  | .tm _ _ _ => ks
def overO (k : Int) (s : PS) : PO := if k = 1 then finishP s else mfinishP s
def popK (ks : KS) (d k : Int) : KS := doneK { ks with w := .no, now := max ks.now d } (overO k ks.s)
def tickK (ks : KS) (n : Int) : KS := match ks.w with
  | .tm _ d k => if d ≤ ks.now + n then { popK ks d k with now := ks.now + n } else { ks with now := ks.now + n }
  | _ => { ks with now := ks.now + n }

theorem run_app : ∀ (a : List Int) (s : Int) (b : List Int), runF s a ≠ -1 → runF s (a ++ b) = runF (runF s a) b
  | [], _, _, _ => rfl
  | h :: a, s, b, hn => by
    simp only [runF, List.cons_append] at hn ⊢
    by_cases hh : nextF s h = -1
    · rw [if_pos hh] at hn; exact absurd rfl hn
    · rw [if_neg hh] at hn ⊢
      rw [if_neg hh]
      exact run_app a _ b hn

inductive Lk (H now : Int) : PS → Wt → Bool × Int → Bool × Int → Int → Prop
  | still {d e r : Int} {j v : Bool × Int} (hd : 0 ≤ d ∧ d ≤ H) (hr : r = 0 ∨ r = 3) : Lk H now ⟨0, 0, 0, 0, d, e⟩ .no j v r
  | wait {d e r : Int} {j v : Bool × Int} (hd : 0 ≤ d ∧ d ≤ H) (hr : r = 0 ∨ r = 6) : Lk H now ⟨1, 0, 0, 0, d, e⟩ .no j v r
  | hold {d e r : Int} {j v : Bool × Int} (hd : 0 ≤ d ∧ d ≤ H) (hr : r = 0 ∨ r = 3) : Lk H now ⟨4, 0, 0, 0, d, e⟩ .no j v r
  | ef1 {d e t : Int} {v : Bool × Int} (hd : 0 ≤ d ∧ d ≤ H) : Lk H now ⟨2, 0, 0, 0, d, e⟩ (.q1 t 1) (true, t) v 2
  | ef0 {d e t : Int} {v : Bool × Int} (hd : 0 ≤ d ∧ d ≤ H) : Lk H now ⟨2, 0, 0, 0, d, e⟩ (.q0 t 1) (true, t) v 2
  | et {d e t u : Int} {v : Bool × Int} (hd : 0 ≤ d ∧ d ≤ H) (hu : u ≤ now + H) : Lk H now ⟨3, 0, 0, 0, d, e⟩ (.tm t u 1) (false, t) v 2
  | lf1 {d e t : Int} {v : Bool × Int} (hd : 0 ≤ d ∧ d ≤ H) : Lk H now ⟨5, 0, 0, 0, d, e⟩ (.q1 t 1) (true, t) v 5
  | lf0 {d e t : Int} {v : Bool × Int} (hd : 0 ≤ d ∧ d ≤ H) : Lk H now ⟨5, 0, 0, 0, d, e⟩ (.q0 t 1) (true, t) v 5
  | lt {d e t u : Int} {v : Bool × Int} (hd : 0 ≤ d ∧ d ≤ H) (hu : u ≤ now + H) : Lk H now ⟨6, 0, 0, 0, d, e⟩ (.tm t u 1) (false, t) v 5
  | aw1 {x y d e t r : Int} {j : Bool × Int} (hx : 0 ≤ x ∧ x ≤ 255) (hy : 0 ≤ y ∧ y ≤ 255) (hd : 0 ≤ d ∧ d ≤ H) (he : 0 ≤ e ∧ e ≤ H) (hr : r = 0 ∨ r = 3) : Lk H now ⟨0, 1, x, y, d, e⟩ (.q1 t 2) j (true, t) r
  | aw0 {x y d e t r : Int} {j : Bool × Int} (hx : 0 ≤ x ∧ x ≤ 255) (hy : 0 ≤ y ∧ y ≤ 255) (hd : 0 ≤ d ∧ d ≤ H) (he : 0 ≤ e ∧ e ≤ H) (hr : r = 0 ∨ r = 3) : Lk H now ⟨0, 1, x, y, d, e⟩ (.q0 t 2) j (true, t) r
  | bk {d e t u r : Int} {j : Bool × Int} (hd : 0 ≤ d ∧ d ≤ H) (hu : u ≤ now + H) (hr : r = 0 ∨ r = 3) : Lk H now ⟨0, 2, 0, 0, d, e⟩ (.tm t u 2) j (false, t) r
theorem Lk.ne {H now r : Int} {s : PS} {w : Wt} {j v : Bool × Int} (h : Lk H now s w j v r) : r ≠ -1 := by cases h <;> omega
def Kd (H : Int) (ks : KS) : Prop := if ks.gone = true then ks.w = .no ∧ runF 0 ks.told ≠ -1 else Lk H ks.now ks.s ks.w ks.job ks.mv (runF 0 ks.told)
theorem Kd.run {H : Int} {ks : KS} (h : Kd H ks) : runF 0 ks.told ≠ -1 := by
  unfold Kd at h
  split at h
  · exact h.2
  · exact h.ne
theorem run0 (r : Int) : runF r [] = r := rfl
theorem runE {r : Int} (h : r = 0 ∨ r = 6) : runF r [1, 2] = 2 := by rcases h with rfl | rfl <;> decide
theorem runL {r : Int} (h : r = 0 ∨ r = 3) : runF r [5, 6] = 5 := by rcases h with rfl | rfl <;> decide
theorem run3 : runF 2 [3] = 3 := by decide
theorem run4 : runF 2 [4] = 3 := by decide
theorem run456 : runF 2 ([4] ++ [5, 6]) = 5 := by decide
theorem run7 : runF 5 [7] = 6 := by decide
theorem run8 : runF 5 [8] = 6 := by decide
theorem later_le {now d H : Int} (hH : 0 ≤ H) (hn : 0 ≤ now) (hd : d ≤ H) : laterP now d ≤ now + H := by unfold laterP; omega
theorem Kd.of {H : Int} {ks : KS} (hg : ks.gone = false) (h : Lk H ks.now ks.s ks.w ks.job ks.mv (runF 0 ks.told)) : Kd H ks := by unfold Kd; rw [hg]; exact h
theorem Kd.out {H : Int} {ks : KS} (hg : ks.gone = true) (hw : ks.w = .no) (h : runF 0 ks.told ≠ -1) : Kd H ks := by unfold Kd; rw [hg]; exact ⟨hw, h⟩

def OkK (H : Int) (ks : KS) (o : PO) : Prop := askable ks o ∧ Kd H (doneK ks o)
theorem enter_ok {H now wl ql dur : Int} {once : Bool} {s : PS} {w : Wt} {job mv : Bool × Int} {told : List Int} (hH : 0 ≤ H) (hn : 0 ≤ now) (hdu : 0 ≤ dur ∧ dur ≤ H) (hl : Lk H now s w job mv (runF 0 told)) : OkK H ⟨s, now, wl, ql, w, job, mv, told, false⟩ (entrP s dur once) := by
  have ht := fun b => run_app told 0 b hl.ne
  have hl2 : ∀ d, d ≤ H → laterP now d ≤ now + H := fun d h => later_le hH hn h
  generalize hr0 : runF 0 told = r at hl ht
  cases hl
  all_goals (cases once)
  all_goals (
    refine ⟨by simp [askable, doneK, jobK, offK, askK, refK, cutW, outP, unmvP, tellP, toP, overP, startP, ht, hr0, run0, run3, run4, run456, run7, run8, entrP], ?_⟩
    first
      | (refine Kd.of ?_ ?_
         focus (simp [askable, doneK, jobK, offK, askK, refK, cutW, outP, unmvP, tellP, toP, overP, startP, ht, hr0, run0, run3, run4, run456, run7, run8, entrP]; done)
         simp [askable, doneK, jobK, offK, askK, refK, cutW, outP, unmvP, tellP, toP, overP, startP, ht, hr0, run0, run3, run4, run456, run7, run8, entrP]
         (try rw [runE (by assumption)])
         (try rw [runL (by assumption)])
         first | exact .still (by omega) (by omega) | exact .wait (by omega) (by omega) | exact .hold (by omega) (by omega) | exact .ef1 (by omega) | exact .ef0 (by omega) | exact .et (by omega) (by first | omega | exact hl2 _ (by omega)) | exact .lf1 (by omega) | exact .lf0 (by omega) | exact .lt (by omega) (by first | omega | exact hl2 _ (by omega)) | exact .aw1 (by omega) (by omega) (by omega) (by omega) (by omega) | exact .aw0 (by omega) (by omega) (by omega) (by omega) (by omega) | exact .bk (by omega) (by first | omega | exact hl2 _ (by omega)) (by omega))
      | (refine Kd.out ?_ ?_ ?_
         focus (simp [askable, doneK, jobK, offK, askK, refK, cutW, outP, unmvP, tellP, toP, overP, startP, ht, hr0, run0, run3, run4, run456, run7, run8, entrP]; done)
         focus (simp [askable, doneK, jobK, offK, askK, refK, cutW, outP, unmvP, tellP, toP, overP, startP, ht, hr0, run0, run3, run4, run456, run7, run8, entrP]; done)
         simp [askable, doneK, jobK, offK, askK, refK, cutW, outP, unmvP, tellP, toP, overP, startP, ht, hr0, run0, run3, run4, run456, run7, run8, entrP]
         (try omega)))
theorem leave_ok {H now wl ql dur : Int} {once : Bool} {s : PS} {w : Wt} {job mv : Bool × Int} {told : List Int} (hH : 0 ≤ H) (hn : 0 ≤ now) (hdu : 0 ≤ dur ∧ dur ≤ H) (hl : Lk H now s w job mv (runF 0 told)) : OkK H ⟨s, now, wl, ql, w, job, mv, told, false⟩ (leaveP s dur once) := by
  have ht := fun b => run_app told 0 b hl.ne
  have hl2 : ∀ d, d ≤ H → laterP now d ≤ now + H := fun d h => later_le hH hn h
  generalize hr0 : runF 0 told = r at hl ht
  cases hl
  all_goals (cases once)
  all_goals (
    refine ⟨by simp [askable, doneK, jobK, offK, askK, refK, cutW, outP, unmvP, tellP, toP, overP, startP, ht, hr0, run0, run3, run4, run456, run7, run8, leaveP, brokenP], ?_⟩
    first
      | (refine Kd.of ?_ ?_
         focus (simp [askable, doneK, jobK, offK, askK, refK, cutW, outP, unmvP, tellP, toP, overP, startP, ht, hr0, run0, run3, run4, run456, run7, run8, leaveP, brokenP]; done)
         simp [askable, doneK, jobK, offK, askK, refK, cutW, outP, unmvP, tellP, toP, overP, startP, ht, hr0, run0, run3, run4, run456, run7, run8, leaveP, brokenP]
         (try rw [runE (by assumption)])
         (try rw [runL (by assumption)])
         first | exact .still (by omega) (by omega) | exact .wait (by omega) (by omega) | exact .hold (by omega) (by omega) | exact .ef1 (by omega) | exact .ef0 (by omega) | exact .et (by omega) (by first | omega | exact hl2 _ (by omega)) | exact .lf1 (by omega) | exact .lf0 (by omega) | exact .lt (by omega) (by first | omega | exact hl2 _ (by omega)) | exact .aw1 (by omega) (by omega) (by omega) (by omega) (by omega) | exact .aw0 (by omega) (by omega) (by omega) (by omega) (by omega) | exact .bk (by omega) (by first | omega | exact hl2 _ (by omega)) (by omega))
      | (refine Kd.out ?_ ?_ ?_
         focus (simp [askable, doneK, jobK, offK, askK, refK, cutW, outP, unmvP, tellP, toP, overP, startP, ht, hr0, run0, run3, run4, run456, run7, run8, leaveP, brokenP]; done)
         focus (simp [askable, doneK, jobK, offK, askK, refK, cutW, outP, unmvP, tellP, toP, overP, startP, ht, hr0, run0, run3, run4, run456, run7, run8, leaveP, brokenP]; done)
         simp [askable, doneK, jobK, offK, askK, refK, cutW, outP, unmvP, tellP, toP, overP, startP, ht, hr0, run0, run3, run4, run456, run7, run8, leaveP, brokenP]
         (try omega)))
theorem hold_ok {H now wl ql : Int} {s : PS} {w : Wt} {job mv : Bool × Int} {told : List Int} (hH : 0 ≤ H) (hn : 0 ≤ now) (hl : Lk H now s w job mv (runF 0 told)) : OkK H ⟨s, now, wl, ql, w, job, mv, told, false⟩ (holdP s) := by
  have ht := fun b => run_app told 0 b hl.ne
  have hl2 : ∀ d, d ≤ H → laterP now d ≤ now + H := fun d h => later_le hH hn h
  generalize hr0 : runF 0 told = r at hl ht
  cases hl
  all_goals (
    refine ⟨by simp [askable, doneK, jobK, offK, askK, refK, cutW, outP, unmvP, tellP, toP, overP, startP, ht, hr0, run0, run3, run4, run456, run7, run8, holdP, brokenP], ?_⟩
    first
      | (refine Kd.of ?_ ?_
         focus (simp [askable, doneK, jobK, offK, askK, refK, cutW, outP, unmvP, tellP, toP, overP, startP, ht, hr0, run0, run3, run4, run456, run7, run8, holdP, brokenP]; done)
         simp [askable, doneK, jobK, offK, askK, refK, cutW, outP, unmvP, tellP, toP, overP, startP, ht, hr0, run0, run3, run4, run456, run7, run8, holdP, brokenP]
         (try rw [runE (by assumption)])
         (try rw [runL (by assumption)])
         first | exact .still (by omega) (by omega) | exact .wait (by omega) (by omega) | exact .hold (by omega) (by omega) | exact .ef1 (by omega) | exact .ef0 (by omega) | exact .et (by omega) (by first | omega | exact hl2 _ (by omega)) | exact .lf1 (by omega) | exact .lf0 (by omega) | exact .lt (by omega) (by first | omega | exact hl2 _ (by omega)) | exact .aw1 (by omega) (by omega) (by omega) (by omega) (by omega) | exact .aw0 (by omega) (by omega) (by omega) (by omega) (by omega) | exact .bk (by omega) (by first | omega | exact hl2 _ (by omega)) (by omega))
      | (refine Kd.out ?_ ?_ ?_
         focus (simp [askable, doneK, jobK, offK, askK, refK, cutW, outP, unmvP, tellP, toP, overP, startP, ht, hr0, run0, run3, run4, run456, run7, run8, holdP, brokenP]; done)
         focus (simp [askable, doneK, jobK, offK, askK, refK, cutW, outP, unmvP, tellP, toP, overP, startP, ht, hr0, run0, run3, run4, run456, run7, run8, holdP, brokenP]; done)
         simp [askable, doneK, jobK, offK, askK, refK, cutW, outP, unmvP, tellP, toP, overP, startP, ht, hr0, run0, run3, run4, run456, run7, run8, holdP, brokenP]
         (try omega)))
theorem return_ok {H now wl ql : Int} {s : PS} {w : Wt} {job mv : Bool × Int} {told : List Int} (hH : 0 ≤ H) (hn : 0 ≤ now) (hl : Lk H now s w job mv (runF 0 told)) : OkK H ⟨s, now, wl, ql, w, job, mv, told, false⟩ (returnP s) := by
  have ht := fun b => run_app told 0 b hl.ne
  have hl2 : ∀ d, d ≤ H → laterP now d ≤ now + H := fun d h => later_le hH hn h
  generalize hr0 : runF 0 told = r at hl ht
  cases hl
  all_goals (
    refine ⟨by simp [askable, doneK, jobK, offK, askK, refK, cutW, outP, unmvP, tellP, toP, overP, startP, ht, hr0, run0, run3, run4, run456, run7, run8, returnP], ?_⟩
    first
      | (refine Kd.of ?_ ?_
         focus (simp [askable, doneK, jobK, offK, askK, refK, cutW, outP, unmvP, tellP, toP, overP, startP, ht, hr0, run0, run3, run4, run456, run7, run8, returnP]; done)
         simp [askable, doneK, jobK, offK, askK, refK, cutW, outP, unmvP, tellP, toP, overP, startP, ht, hr0, run0, run3, run4, run456, run7, run8, returnP]
         (try rw [runE (by assumption)])
         (try rw [runL (by assumption)])
         first | exact .still (by omega) (by omega) | exact .wait (by omega) (by omega) | exact .hold (by omega) (by omega) | exact .ef1 (by omega) | exact .ef0 (by omega) | exact .et (by omega) (by first | omega | exact hl2 _ (by omega)) | exact .lf1 (by omega) | exact .lf0 (by omega) | exact .lt (by omega) (by first | omega | exact hl2 _ (by omega)) | exact .aw1 (by omega) (by omega) (by omega) (by omega) (by omega) | exact .aw0 (by omega) (by omega) (by omega) (by omega) (by omega) | exact .bk (by omega) (by first | omega | exact hl2 _ (by omega)) (by omega))
      | (refine Kd.out ?_ ?_ ?_
         focus (simp [askable, doneK, jobK, offK, askK, refK, cutW, outP, unmvP, tellP, toP, overP, startP, ht, hr0, run0, run3, run4, run456, run7, run8, returnP]; done)
         focus (simp [askable, doneK, jobK, offK, askK, refK, cutW, outP, unmvP, tellP, toP, overP, startP, ht, hr0, run0, run3, run4, run456, run7, run8, returnP]; done)
         simp [askable, doneK, jobK, offK, askK, refK, cutW, outP, unmvP, tellP, toP, overP, startP, ht, hr0, run0, run3, run4, run456, run7, run8, returnP]
         (try omega)))
theorem finish_ok {H now wl ql : Int} {s : PS} {w : Wt} {job mv : Bool × Int} {told : List Int} (hH : 0 ≤ H) (hn : 0 ≤ now) (hl : Lk H now s w job mv (runF 0 told)) : OkK H ⟨s, now, wl, ql, w, job, mv, told, false⟩ (finishP s) := by
  have ht := fun b => run_app told 0 b hl.ne
  have hl2 : ∀ d, d ≤ H → laterP now d ≤ now + H := fun d h => later_le hH hn h
  generalize hr0 : runF 0 told = r at hl ht
  cases hl
  all_goals (
    refine ⟨by simp [askable, doneK, jobK, offK, askK, refK, cutW, outP, unmvP, tellP, toP, overP, startP, ht, hr0, run0, run3, run4, run456, run7, run8, finishP, endP], ?_⟩
    first
      | (refine Kd.of ?_ ?_
         focus (simp [askable, doneK, jobK, offK, askK, refK, cutW, outP, unmvP, tellP, toP, overP, startP, ht, hr0, run0, run3, run4, run456, run7, run8, finishP, endP]; done)
         simp [askable, doneK, jobK, offK, askK, refK, cutW, outP, unmvP, tellP, toP, overP, startP, ht, hr0, run0, run3, run4, run456, run7, run8, finishP, endP]
         (try rw [runE (by assumption)])
         (try rw [runL (by assumption)])
         first | exact .still (by omega) (by omega) | exact .wait (by omega) (by omega) | exact .hold (by omega) (by omega) | exact .ef1 (by omega) | exact .ef0 (by omega) | exact .et (by omega) (by first | omega | exact hl2 _ (by omega)) | exact .lf1 (by omega) | exact .lf0 (by omega) | exact .lt (by omega) (by first | omega | exact hl2 _ (by omega)) | exact .aw1 (by omega) (by omega) (by omega) (by omega) (by omega) | exact .aw0 (by omega) (by omega) (by omega) (by omega) (by omega) | exact .bk (by omega) (by first | omega | exact hl2 _ (by omega)) (by omega))
      | (refine Kd.out ?_ ?_ ?_
         focus (simp [askable, doneK, jobK, offK, askK, refK, cutW, outP, unmvP, tellP, toP, overP, startP, ht, hr0, run0, run3, run4, run456, run7, run8, finishP, endP]; done)
         focus (simp [askable, doneK, jobK, offK, askK, refK, cutW, outP, unmvP, tellP, toP, overP, startP, ht, hr0, run0, run3, run4, run456, run7, run8, finishP, endP]; done)
         simp [askable, doneK, jobK, offK, askK, refK, cutW, outP, unmvP, tellP, toP, overP, startP, ht, hr0, run0, run3, run4, run456, run7, run8, finishP, endP]
         (try omega)))
theorem cancel_ok {H now wl ql : Int} {s : PS} {w : Wt} {job mv : Bool × Int} {told : List Int} (hH : 0 ≤ H) (hn : 0 ≤ now) (hl : Lk H now s w job mv (runF 0 told)) : OkK H ⟨s, now, wl, ql, w, job, mv, told, false⟩ (cancelP s) := by
  have ht := fun b => run_app told 0 b hl.ne
  have hl2 : ∀ d, d ≤ H → laterP now d ≤ now + H := fun d h => later_le hH hn h
  generalize hr0 : runF 0 told = r at hl ht
  cases hl
  all_goals (
    refine ⟨by simp [askable, doneK, jobK, offK, askK, refK, cutW, outP, unmvP, tellP, toP, overP, startP, ht, hr0, run0, run3, run4, run456, run7, run8, cancelP, endP], ?_⟩
    first
      | (refine Kd.of ?_ ?_
         focus (simp [askable, doneK, jobK, offK, askK, refK, cutW, outP, unmvP, tellP, toP, overP, startP, ht, hr0, run0, run3, run4, run456, run7, run8, cancelP, endP]; done)
         simp [askable, doneK, jobK, offK, askK, refK, cutW, outP, unmvP, tellP, toP, overP, startP, ht, hr0, run0, run3, run4, run456, run7, run8, cancelP, endP]
         (try rw [runE (by assumption)])
         (try rw [runL (by assumption)])
         first | exact .still (by omega) (by omega) | exact .wait (by omega) (by omega) | exact .hold (by omega) (by omega) | exact .ef1 (by omega) | exact .ef0 (by omega) | exact .et (by omega) (by first | omega | exact hl2 _ (by omega)) | exact .lf1 (by omega) | exact .lf0 (by omega) | exact .lt (by omega) (by first | omega | exact hl2 _ (by omega)) | exact .aw1 (by omega) (by omega) (by omega) (by omega) (by omega) | exact .aw0 (by omega) (by omega) (by omega) (by omega) (by omega) | exact .bk (by omega) (by first | omega | exact hl2 _ (by omega)) (by omega))
      | (refine Kd.out ?_ ?_ ?_
         focus (simp [askable, doneK, jobK, offK, askK, refK, cutW, outP, unmvP, tellP, toP, overP, startP, ht, hr0, run0, run3, run4, run456, run7, run8, cancelP, endP]; done)
         focus (simp [askable, doneK, jobK, offK, askK, refK, cutW, outP, unmvP, tellP, toP, overP, startP, ht, hr0, run0, run3, run4, run456, run7, run8, cancelP, endP]; done)
         simp [askable, doneK, jobK, offK, askK, refK, cutW, outP, unmvP, tellP, toP, overP, startP, ht, hr0, run0, run3, run4, run456, run7, run8, cancelP, endP]
         (try omega)))
theorem settle_ok {H now wl ql : Int} {s : PS} {w : Wt} {job mv : Bool × Int} {told : List Int} (hH : 0 ≤ H) (hn : 0 ≤ now) (hl : Lk H now s w job mv (runF 0 told)) : OkK H ⟨s, now, wl, ql, w, job, mv, told, false⟩ (settleP s) := by
  have ht := fun b => run_app told 0 b hl.ne
  have hl2 : ∀ d, d ≤ H → laterP now d ≤ now + H := fun d h => later_le hH hn h
  generalize hr0 : runF 0 told = r at hl ht
  cases hl
  all_goals (
    refine ⟨by simp [askable, doneK, jobK, offK, askK, refK, cutW, outP, unmvP, tellP, toP, overP, startP, ht, hr0, run0, run3, run4, run456, run7, run8, settleP, cancelP, endP], ?_⟩
    first
      | (refine Kd.of ?_ ?_
         focus (simp [askable, doneK, jobK, offK, askK, refK, cutW, outP, unmvP, tellP, toP, overP, startP, ht, hr0, run0, run3, run4, run456, run7, run8, settleP, cancelP, endP]; done)
         simp [askable, doneK, jobK, offK, askK, refK, cutW, outP, unmvP, tellP, toP, overP, startP, ht, hr0, run0, run3, run4, run456, run7, run8, settleP, cancelP, endP]
         (try rw [runE (by assumption)])
         (try rw [runL (by assumption)])
         first | exact .still (by omega) (by omega) | exact .wait (by omega) (by omega) | exact .hold (by omega) (by omega) | exact .ef1 (by omega) | exact .ef0 (by omega) | exact .et (by omega) (by first | omega | exact hl2 _ (by omega)) | exact .lf1 (by omega) | exact .lf0 (by omega) | exact .lt (by omega) (by first | omega | exact hl2 _ (by omega)) | exact .aw1 (by omega) (by omega) (by omega) (by omega) (by omega) | exact .aw0 (by omega) (by omega) (by omega) (by omega) (by omega) | exact .bk (by omega) (by first | omega | exact hl2 _ (by omega)) (by omega))
      | (refine Kd.out ?_ ?_ ?_
         focus (simp [askable, doneK, jobK, offK, askK, refK, cutW, outP, unmvP, tellP, toP, overP, startP, ht, hr0, run0, run3, run4, run456, run7, run8, settleP, cancelP, endP]; done)
         focus (simp [askable, doneK, jobK, offK, askK, refK, cutW, outP, unmvP, tellP, toP, overP, startP, ht, hr0, run0, run3, run4, run456, run7, run8, settleP, cancelP, endP]; done)
         simp [askable, doneK, jobK, offK, askK, refK, cutW, outP, unmvP, tellP, toP, overP, startP, ht, hr0, run0, run3, run4, run456, run7, run8, settleP, cancelP, endP]
         (try omega)))
theorem shift0_ok {H now wl ql dur : Int} {s : PS} {w : Wt} {job mv : Bool × Int} {told : List Int} (hH : 0 ≤ H) (hn : 0 ≤ now) (hl : Lk H now s w job mv (runF 0 told)) : OkK H ⟨s, now, wl, ql, w, job, mv, told, false⟩ (shiftP s 0 0 dur) := by
  have ht := fun b => run_app told 0 b hl.ne
  have hl2 : ∀ d, d ≤ H → laterP now d ≤ now + H := fun d h => later_le hH hn h
  generalize hr0 : runF 0 told = r at hl ht
  cases hl
  all_goals (
    refine ⟨by simp [askable, doneK, jobK, offK, askK, refK, cutW, outP, unmvP, tellP, toP, overP, startP, ht, hr0, run0, run3, run4, run456, run7, run8, shiftP], ?_⟩
    first
      | (refine Kd.of ?_ ?_
         focus (simp [askable, doneK, jobK, offK, askK, refK, cutW, outP, unmvP, tellP, toP, overP, startP, ht, hr0, run0, run3, run4, run456, run7, run8, shiftP]; done)
         simp [askable, doneK, jobK, offK, askK, refK, cutW, outP, unmvP, tellP, toP, overP, startP, ht, hr0, run0, run3, run4, run456, run7, run8, shiftP]
         (try rw [runE (by assumption)])
         (try rw [runL (by assumption)])
         first | exact .still (by omega) (by omega) | exact .wait (by omega) (by omega) | exact .hold (by omega) (by omega) | exact .ef1 (by omega) | exact .ef0 (by omega) | exact .et (by omega) (by first | omega | exact hl2 _ (by omega)) | exact .lf1 (by omega) | exact .lf0 (by omega) | exact .lt (by omega) (by first | omega | exact hl2 _ (by omega)) | exact .aw1 (by omega) (by omega) (by omega) (by omega) (by omega) | exact .aw0 (by omega) (by omega) (by omega) (by omega) (by omega) | exact .bk (by omega) (by first | omega | exact hl2 _ (by omega)) (by omega))
      | (refine Kd.out ?_ ?_ ?_
         focus (simp [askable, doneK, jobK, offK, askK, refK, cutW, outP, unmvP, tellP, toP, overP, startP, ht, hr0, run0, run3, run4, run456, run7, run8, shiftP]; done)
         focus (simp [askable, doneK, jobK, offK, askK, refK, cutW, outP, unmvP, tellP, toP, overP, startP, ht, hr0, run0, run3, run4, run456, run7, run8, shiftP]; done)
         simp [askable, doneK, jobK, offK, askK, refK, cutW, outP, unmvP, tellP, toP, overP, startP, ht, hr0, run0, run3, run4, run456, run7, run8, shiftP]
         (try omega)))
theorem shift1_ok {H now wl ql dx dy dur : Int} {s : PS} {w : Wt} {job mv : Bool × Int} {told : List Int} (hH : 0 ≤ H) (hn : 0 ≤ now) (hdu : 0 ≤ dur ∧ dur ≤ H) (hx : 0 ≤ dx ∧ dx ≤ 255) (hy : 0 ≤ dy ∧ dy ≤ 255) (hz : ¬ (dx = 0 ∧ dy = 0)) (hl : Lk H now s w job mv (runF 0 told)) : OkK H ⟨s, now, wl, ql, w, job, mv, told, false⟩ (shiftP s dx dy dur) := by
  have ht := fun b => run_app told 0 b hl.ne
  have hl2 : ∀ d, d ≤ H → laterP now d ≤ now + H := fun d h => later_le hH hn h
  generalize hr0 : runF 0 told = r at hl ht
  cases hl
  all_goals (
    refine ⟨by simp [askable, doneK, jobK, offK, askK, refK, cutW, outP, unmvP, tellP, toP, overP, startP, ht, hr0, run0, run3, run4, run456, run7, run8, shiftP, hz], ?_⟩
    first
      | (refine Kd.of ?_ ?_
         focus (simp [askable, doneK, jobK, offK, askK, refK, cutW, outP, unmvP, tellP, toP, overP, startP, ht, hr0, run0, run3, run4, run456, run7, run8, shiftP, hz]; done)
         simp [askable, doneK, jobK, offK, askK, refK, cutW, outP, unmvP, tellP, toP, overP, startP, ht, hr0, run0, run3, run4, run456, run7, run8, shiftP, hz]
         (try rw [runE (by assumption)])
         (try rw [runL (by assumption)])
         first | exact .still (by omega) (by omega) | exact .wait (by omega) (by omega) | exact .hold (by omega) (by omega) | exact .ef1 (by omega) | exact .ef0 (by omega) | exact .et (by omega) (by first | omega | exact hl2 _ (by omega)) | exact .lf1 (by omega) | exact .lf0 (by omega) | exact .lt (by omega) (by first | omega | exact hl2 _ (by omega)) | exact .aw1 (by omega) (by omega) (by omega) (by omega) (by omega) | exact .aw0 (by omega) (by omega) (by omega) (by omega) (by omega) | exact .bk (by omega) (by first | omega | exact hl2 _ (by omega)) (by omega))
      | (refine Kd.out ?_ ?_ ?_
         focus (simp [askable, doneK, jobK, offK, askK, refK, cutW, outP, unmvP, tellP, toP, overP, startP, ht, hr0, run0, run3, run4, run456, run7, run8, shiftP, hz]; done)
         focus (simp [askable, doneK, jobK, offK, askK, refK, cutW, outP, unmvP, tellP, toP, overP, startP, ht, hr0, run0, run3, run4, run456, run7, run8, shiftP, hz]; done)
         simp [askable, doneK, jobK, offK, askK, refK, cutW, outP, unmvP, tellP, toP, overP, startP, ht, hr0, run0, run3, run4, run456, run7, run8, shiftP, hz]
         (try omega)))
theorem mfinish_ok {H now wl ql : Int} {s : PS} {w : Wt} {job mv : Bool × Int} {told : List Int} (hH : 0 ≤ H) (hn : 0 ≤ now) (hl : Lk H now s w job mv (runF 0 told)) : OkK H ⟨s, now, wl, ql, w, job, mv, told, false⟩ (mfinishP s) := by
  have ht := fun b => run_app told 0 b hl.ne
  have hl2 : ∀ d, d ≤ H → laterP now d ≤ now + H := fun d h => later_le hH hn h
  generalize hr0 : runF 0 told = r at hl ht
  cases hl
  all_goals (
    refine ⟨by simp [askable, doneK, jobK, offK, askK, refK, cutW, outP, unmvP, tellP, toP, overP, startP, ht, hr0, run0, run3, run4, run456, run7, run8, mfinishP], ?_⟩
    first
      | (refine Kd.of ?_ ?_
         focus (simp [askable, doneK, jobK, offK, askK, refK, cutW, outP, unmvP, tellP, toP, overP, startP, ht, hr0, run0, run3, run4, run456, run7, run8, mfinishP]; done)
         simp [askable, doneK, jobK, offK, askK, refK, cutW, outP, unmvP, tellP, toP, overP, startP, ht, hr0, run0, run3, run4, run456, run7, run8, mfinishP]
         (try rw [runE (by assumption)])
         (try rw [runL (by assumption)])
         first | exact .still (by omega) (by omega) | exact .wait (by omega) (by omega) | exact .hold (by omega) (by omega) | exact .ef1 (by omega) | exact .ef0 (by omega) | exact .et (by omega) (by first | omega | exact hl2 _ (by omega)) | exact .lf1 (by omega) | exact .lf0 (by omega) | exact .lt (by omega) (by first | omega | exact hl2 _ (by omega)) | exact .aw1 (by omega) (by omega) (by omega) (by omega) (by omega) | exact .aw0 (by omega) (by omega) (by omega) (by omega) (by omega) | exact .bk (by omega) (by first | omega | exact hl2 _ (by omega)) (by omega))
      | (refine Kd.out ?_ ?_ ?_
         focus (simp [askable, doneK, jobK, offK, askK, refK, cutW, outP, unmvP, tellP, toP, overP, startP, ht, hr0, run0, run3, run4, run456, run7, run8, mfinishP]; done)
         focus (simp [askable, doneK, jobK, offK, askK, refK, cutW, outP, unmvP, tellP, toP, overP, startP, ht, hr0, run0, run3, run4, run456, run7, run8, mfinishP]; done)
         simp [askable, doneK, jobK, offK, askK, refK, cutW, outP, unmvP, tellP, toP, overP, startP, ht, hr0, run0, run3, run4, run456, run7, run8, mfinishP]
         (try omega)))
def frmAsk (ks : KS) : Prop := match ks.w with
  | .q0 _ k => askable { ks with w := .no } (dueO k ks.s)
  | _ => True
def tckAsk (ks : KS) (n : Int) : Prop := match ks.w with
  | .tm _ d k => d ≤ ks.now + n → askable { ks with w := .no, now := max ks.now d } (overO k ks.s)
  | _ => True
theorem frame_ok {H now wl ql : Int} {s : PS} {w : Wt} {job mv : Bool × Int} {told : List Int} (hH : 0 ≤ H) (hn : 0 ≤ now) (hl : Lk H now s w job mv (runF 0 told)) : frmAsk ⟨s, now, wl, ql, w, job, mv, told, false⟩ ∧ Kd H (frameK ⟨s, now, wl, ql, w, job, mv, told, false⟩) := by
  have ht := fun b => run_app told 0 b hl.ne
  have hl2 : ∀ d, d ≤ H → laterP now d ≤ now + H := fun d h => later_le hH hn h
  generalize hr0 : runF 0 told = r at hl ht
  cases hl
  all_goals (
    refine ⟨by simp [askable, doneK, jobK, offK, askK, refK, cutW, outP, unmvP, tellP, toP, overP, startP, ht, hr0, run0, run3, run4, run456, run7, run8, frmAsk, frameK, frameP, mframeP, dueO], ?_⟩
    first
      | (refine Kd.of ?_ ?_
         focus (simp [askable, doneK, jobK, offK, askK, refK, cutW, outP, unmvP, tellP, toP, overP, startP, ht, hr0, run0, run3, run4, run456, run7, run8, frmAsk, frameK, frameP, mframeP, dueO]; done)
         simp [askable, doneK, jobK, offK, askK, refK, cutW, outP, unmvP, tellP, toP, overP, startP, ht, hr0, run0, run3, run4, run456, run7, run8, frmAsk, frameK, frameP, mframeP, dueO]
         first | exact .still (by omega) (by omega) | exact .wait (by omega) (by omega) | exact .hold (by omega) (by omega) | exact .ef1 (by omega) | exact .ef0 (by omega) | exact .et (by omega) (by first | omega | exact hl2 _ (by omega)) | exact .lf1 (by omega) | exact .lf0 (by omega) | exact .lt (by omega) (by first | omega | exact hl2 _ (by omega)) | exact .aw1 (by omega) (by omega) (by omega) (by omega) (by omega) | exact .aw0 (by omega) (by omega) (by omega) (by omega) (by omega) | exact .bk (by omega) (by first | omega | exact hl2 _ (by omega)) (by omega))
      | (refine Kd.out ?_ ?_ ?_
         focus (simp [askable, doneK, jobK, offK, askK, refK, cutW, outP, unmvP, tellP, toP, overP, startP, ht, hr0, run0, run3, run4, run456, run7, run8, frmAsk, frameK, frameP, mframeP, dueO]; done)
         focus (simp [askable, doneK, jobK, offK, askK, refK, cutW, outP, unmvP, tellP, toP, overP, startP, ht, hr0, run0, run3, run4, run456, run7, run8, frmAsk, frameK, frameP, mframeP, dueO]; done)
         simp [askable, doneK, jobK, offK, askK, refK, cutW, outP, unmvP, tellP, toP, overP, startP, ht, hr0, run0, run3, run4, run456, run7, run8, frmAsk, frameK, frameP, mframeP, dueO]
         (try omega)))
theorem Lk.later {H now now' r : Int} {s : PS} {w : Wt} {j v : Bool × Int} (h : Lk H now s w j v r) (hn : now ≤ now') : Lk H now' s w j v r := by
  cases h
  all_goals (first | exact .still (by omega) (by omega) | exact .wait (by omega) (by omega) | exact .hold (by omega) (by omega) | exact .ef1 (by omega) | exact .ef0 (by omega) | exact .et (by omega) (by first | omega | omega) | exact .lf1 (by omega) | exact .lf0 (by omega) | exact .lt (by omega) (by first | omega | omega) | exact .aw1 (by omega) (by omega) (by omega) (by omega) (by omega) | exact .aw0 (by omega) (by omega) (by omega) (by omega) (by omega) | exact .bk (by omega) (by first | omega | omega) (by omega))
theorem Lk.longer {H H' now r : Int} {s : PS} {w : Wt} {j v : Bool × Int} (h : Lk H now s w j v r) (hn : H ≤ H') : Lk H' now s w j v r := by
  cases h
  all_goals (first | exact .still (by omega) (by omega) | exact .wait (by omega) (by omega) | exact .hold (by omega) (by omega) | exact .ef1 (by omega) | exact .ef0 (by omega) | exact .et (by omega) (by first | omega | omega) | exact .lf1 (by omega) | exact .lf0 (by omega) | exact .lt (by omega) (by first | omega | omega) | exact .aw1 (by omega) (by omega) (by omega) (by omega) (by omega) | exact .aw0 (by omega) (by omega) (by omega) (by omega) (by omega) | exact .bk (by omega) (by first | omega | omega) (by omega))
theorem pop_ok {H now wl ql u t k : Int} {s : PS} {job mv : Bool × Int} {told : List Int} (hH : 0 ≤ H) (hn : 0 ≤ now) (hl : Lk H now s (.tm t u k) job mv (runF 0 told)) :
    askable ⟨s, max now u, wl, ql, .no, job, mv, told, false⟩ (overO k s) ∧ ∀ m, now ≤ m → Kd H { popK ⟨s, now, wl, ql, .tm t u k, job, mv, told, false⟩ u k with now := m } := by
  have ht := fun b => run_app told 0 b hl.ne
  generalize hr0 : runF 0 told = r at hl ht
  cases hl
  all_goals (
    refine ⟨by simp [askable, doneK, jobK, offK, askK, refK, cutW, outP, unmvP, tellP, toP, overP, startP, ht, hr0, run0, run3, run4, run456, run7, run8, popK, overO, finishP, endP, mfinishP], fun m hm => ?_⟩
    first
      | (refine Kd.of ?_ ?_
         focus (simp [askable, doneK, jobK, offK, askK, refK, cutW, outP, unmvP, tellP, toP, overP, startP, ht, hr0, run0, run3, run4, run456, run7, run8, popK, overO, finishP, endP, mfinishP]; done)
         simp [askable, doneK, jobK, offK, askK, refK, cutW, outP, unmvP, tellP, toP, overP, startP, ht, hr0, run0, run3, run4, run456, run7, run8, popK, overO, finishP, endP, mfinishP]
         first | exact .still (by omega) (by omega) | exact .wait (by omega) (by omega) | exact .hold (by omega) (by omega) | exact .ef1 (by omega) | exact .ef0 (by omega) | exact .et (by omega) (by first | omega | omega) | exact .lf1 (by omega) | exact .lf0 (by omega) | exact .lt (by omega) (by first | omega | omega) | exact .aw1 (by omega) (by omega) (by omega) (by omega) (by omega) | exact .aw0 (by omega) (by omega) (by omega) (by omega) (by omega) | exact .bk (by omega) (by first | omega | omega) (by omega))
      | (refine Kd.out ?_ ?_ ?_
         focus (simp [askable, doneK, jobK, offK, askK, refK, cutW, outP, unmvP, tellP, toP, overP, startP, ht, hr0, run0, run3, run4, run456, run7, run8, popK, overO, finishP, endP, mfinishP]; done)
         focus (simp [askable, doneK, jobK, offK, askK, refK, cutW, outP, unmvP, tellP, toP, overP, startP, ht, hr0, run0, run3, run4, run456, run7, run8, popK, overO, finishP, endP, mfinishP]; done)
         simp [askable, doneK, jobK, offK, askK, refK, cutW, outP, unmvP, tellP, toP, overP, startP, ht, hr0, run0, run3, run4, run456, run7, run8, popK, overO, finishP, endP, mfinishP]
         (try omega)))
theorem Kd.lk {H : Int} {ks : KS} (h : Kd H ks) (hg : ks.gone = false) : Lk H ks.now ks.s ks.w ks.job ks.mv (runF 0 ks.told) := by unfold Kd at h; rw [hg] at h; exact h
theorem Kd.no {H : Int} {ks : KS} (h : Kd H ks) (hg : ks.gone = true) : ks.w = .no ∧ runF 0 ks.told ≠ -1 := by unfold Kd at h; rw [hg] at h; exact h
theorem Kd.longer {H H' : Int} {ks : KS} (h : Kd H ks) (hn : H ≤ H') : Kd H' ks := by
  cases hg : ks.gone with
  | true => exact .out hg (h.no hg).1 (h.no hg).2
  | false => exact .of hg ((h.lk hg).longer hn)
theorem call_kd {H dur dx dy c : Int} {once : Bool} {ks : KS} (hH : 0 ≤ H) (hn : 0 ≤ ks.now) (hg : ks.gone = false) (hdu : 0 ≤ dur ∧ dur ≤ H) (hx : 0 ≤ dx ∧ dx ≤ 255) (hy : 0 ≤ dy ∧ dy ≤ 255) (h4 : c ≠ 4) (h9 : c ≠ 9) (h : Kd H ks) :
    OkK H ks (callP ks.s c dur dx dy once) := by
  have hl := h.lk hg
  obtain ⟨s, now, wl, ql, w, job, mv, told, gone⟩ := ks
  simp only at hg hl hn
  subst hg
  unfold callP
  rw [if_neg h4, if_neg h9]
  simp only
  by_cases c0 : c = 0
  · rw [if_pos c0]; exact enter_ok hH hn hdu hl
  rw [if_neg c0]
  by_cases c1 : c = 1
  · rw [if_pos c1]; exact leave_ok hH hn hdu hl
  rw [if_neg c1]
  by_cases c2 : c = 2
  · rw [if_pos c2]; exact hold_ok hH hn hl
  rw [if_neg c2]
  by_cases c3 : c = 3
  · rw [if_pos c3]; exact return_ok hH hn hl
  rw [if_neg c3]
  by_cases c5 : c = 5
  · rw [if_pos c5]; exact finish_ok hH hn hl
  rw [if_neg c5]
  by_cases c6 : c = 6
  · rw [if_pos c6]; exact cancel_ok hH hn hl
  rw [if_neg c6]
  by_cases c7 : c = 7
  · rw [if_pos c7]; exact settle_ok hH hn hl
  rw [if_neg c7]
  by_cases c8 : c = 8
  · rw [if_pos c8]
    by_cases hz : dx = 0 ∧ dy = 0
    · obtain ⟨rfl, rfl⟩ := hz; exact shift0_ok hH hn hl
    · exact shift1_ok hH hn hdu hx hy hz hl
  rw [if_neg c8]
  exact mfinish_ok hH hn hl
theorem frame_kd {H : Int} {ks : KS} (hH : 0 ≤ H) (hn : 0 ≤ ks.now) (h : Kd H ks) : frmAsk ks ∧ Kd H (frameK ks) := by
  cases hg : ks.gone with
  | true =>
    obtain ⟨hw, -⟩ := h.no hg
    unfold frmAsk frameK
    rw [hw]
    exact ⟨trivial, h⟩
  | false =>
    have hl := h.lk hg
    obtain ⟨s, now, wl, ql, w, job, mv, told, gone⟩ := ks
    simp only at hg hl hn
    subst hg
    exact frame_ok hH hn hl
theorem tick_kd {H n : Int} {ks : KS} (hH : 0 ≤ H) (hn : 0 ≤ ks.now) (h0 : 0 ≤ n) (h : Kd H ks) : tckAsk ks n ∧ Kd H (tickK ks n) := by
  cases hg : ks.gone with
  | true =>
    obtain ⟨hw, hr⟩ := h.no hg
    have e : tickK ks n = { ks with now := ks.now + n } := by unfold tickK; rw [hw]
    rw [e]
    unfold tckAsk
    rw [hw]
    exact ⟨trivial, .out hg rfl hr⟩
  | false =>
    have hl := h.lk hg
    obtain ⟨s, now, wl, ql, w, job, mv, told, gone⟩ := ks
    simp only at hg hl hn
    subst hg
    cases w with
    | no => exact ⟨trivial, .of rfl (show Lk H (now + n) s .no job mv (runF 0 told) from hl.later (by omega))⟩
    | q1 t k => exact ⟨trivial, .of rfl (show Lk H (now + n) s (.q1 t k) job mv (runF 0 told) from hl.later (by omega))⟩
    | q0 t k => exact ⟨trivial, .of rfl (show Lk H (now + n) s (.q0 t k) job mv (runF 0 told) from hl.later (by omega))⟩
    | tm t u k =>
      obtain ⟨h1, h2⟩ := pop_ok (wl := wl) (ql := ql) hH hn hl
      refine ⟨fun _ => h1, ?_⟩
      unfold tickK
      simp only
      split
      · exact h2 _ (by omega)
      · exact .of rfl (show Lk H (now + n) s (.tm t u k) job mv (runF 0 told) from hl.later (by omega))
def cntW : Wt → Int
  | .no => 0
  | _ => 1
def wantN (s : PS) : Int := (if s.k = 2 ∨ s.k = 3 ∨ s.k = 5 ∨ s.k = 6 then 1 else 0) + (if s.m = 0 then 0 else 1)
theorem Lk.want {H now r : Int} {s : PS} {w : Wt} {j v : Bool × Int} (h : Lk H now s w j v r) : cntW w = wantN s ∧ (0 ≤ s.k ∧ s.k ≤ 6 ∧ 0 ≤ s.m ∧ s.m ≤ 2 ∧ (s.m = 0 ∨ s.k = 0) ∧ ((s.m = 1 ∧ (-2147483648 ≤ s.x ∧ s.x ≤ 2147483647) ∧ (-2147483648 ≤ s.y ∧ s.y ≤ 2147483647)) ∨ (s.m ≠ 1 ∧ s.x = 0 ∧ s.y = 0))) := by
  cases h <;> refine ⟨by simp [cntW, wantN], ?_⟩ <;> simp <;> omega
def Rst (ks : KS) : Prop := ks.w = .no ∧ (ks.gone = false → (ks.s.k = 0 ∨ ks.s.k = 1 ∨ ks.s.k = 4) ∧ ks.s.m = 0)
def noQ : Wt → Prop
  | .q1 _ _ => False
  | .q0 _ _ => False
  | _ => True
theorem frame2_q {H now wl ql : Int} {s : PS} {w : Wt} {job mv : Bool × Int} {told : List Int} (hl : Lk H now s w job mv (runF 0 told)) :
    (frameK (frameK ⟨s, now, wl, ql, w, job, mv, told, false⟩)).gone = false ∧ noQ (frameK (frameK ⟨s, now, wl, ql, w, job, mv, told, false⟩)).w := by
  generalize hr0 : runF 0 told = r at hl
  cases hl <;> simp [noQ, frameK, dueO, frameP, mframeP, doneK, jobK, offK, askK, refK, cutW, outP, unmvP, tellP, toP, overP, startP]
theorem tick_rest {H now wl ql : Int} {s : PS} {w : Wt} {job mv : Bool × Int} {told : List Int} (hl : Lk H now s w job mv (runF 0 told)) (hq : noQ w) :
    Rst (tickK ⟨s, now, wl, ql, w, job, mv, told, false⟩ H) := by
  generalize hr0 : runF 0 told = r at hl
  cases hl
  all_goals first
    | exact hq.elim
    | (rename_i hu; simp [Rst, tickK, popK, overO, finishP, endP, mfinishP, doneK, jobK, offK, askK, refK, cutW, outP, unmvP, tellP, toP, overP, startP, hu]; done)
    | (rename_i hu _; simp [Rst, tickK, popK, overO, finishP, endP, mfinishP, doneK, jobK, offK, askK, refK, cutW, outP, unmvP, tellP, toP, overP, startP, hu])
theorem rest_end {H : Int} {ks : KS} (hH : 0 ≤ H) (hn : 0 ≤ ks.now) (h : Kd H ks) : Rst (tickK (frameK (frameK ks)) H) := by
  cases hg : ks.gone with
  | true =>
    obtain ⟨hw, -⟩ := h.no hg
    have e : frameK ks = ks := by unfold frameK; rw [hw]
    rw [e, e]
    unfold tickK
    rw [hw]
    exact ⟨rfl, fun hh => by simp only at hh; rw [hg] at hh; cases hh⟩
  | false =>
    have hl := h.lk hg
    have h2 : frmAsk ks ∧ Kd H (frameK ks) := frame_kd hH hn h
    have hnow : ∀ ks : KS, (frameK ks).now = ks.now := by
      intro ks
      unfold frameK
      cases ks.w with
      | no => rfl
      | q1 t k => rfl
      | q0 t k => unfold doneK jobK; simp only [askK, offK]; (repeat' split) <;> rfl
      | tm t d k => rfl
    have h3 := frame_kd hH (by rw [hnow]; exact hn) h2.2
    have h4 : (frameK (frameK ks)).gone = false ∧ noQ (frameK (frameK ks)).w := by
      obtain ⟨s, now, wl, ql, w, job, mv, told, gone⟩ := ks
      simp only at hg hl
      subst hg
      exact frame2_q hl
    have h5 := h3.2.lk h4.1
    generalize frameK (frameK ks) = k2 at h4 h5
    obtain ⟨s, now, wl, ql, w, job, mv, told, gone⟩ := k2
    simp only at h4 h5
    obtain ⟨rfl, h6⟩ := h4
    exact tick_rest h5 h6
theorem done_num (ks : KS) (o : PO) : (doneK ks o).now = ks.now ∧ ks.wl ≤ (doneK ks o).wl ∧ (doneK ks o).wl ≤ ks.wl + 2 ∧ ks.ql ≤ (doneK ks o).ql ∧ (doneK ks o).ql ≤ ks.ql + 2 ∧ (doneK ks o).told = ks.told ++ o.hk := by
  unfold doneK jobK
  simp only [askK, offK]
  (repeat' split) <;> (simp; try omega)
theorem unmv_hk (o : PO) : (unmvP o).hk = o.hk := by unfold unmvP; split <;> rfl
theorem start_hk (o : PO) (f on d : Int) (once : Bool) : (startP o f on d once).hk = o.hk := by unfold startP; split <;> exact unmv_hk o
theorem broken_hk (s : PS) : (brokenP s).hk.length ≤ 1 := by unfold brokenP; split <;> simp [overP, toP, tellP, outP]
theorem end_hk (s : PS) (h : Int) : (endP s h).hk.length ≤ 1 := by
  unfold endP
  split
  · simp [overP, toP, tellP, outP]
  · split <;> simp [tellP, outP]
theorem call_hk (s : PS) (c dur dx dy : Int) (once : Bool) : (callP s c dur dx dy once).hk.length ≤ 3 := by
  have h0 : (outP s).hk.length ≤ 3 := Nat.zero_le _
  have hb := broken_hk s
  unfold callP
  split
  · unfold entrP; split
    · rw [start_hk]; simp [tellP, outP]
    · exact h0
  split
  · unfold leaveP; split
    · rw [start_hk]; simp only [tellP, List.length_append, List.length_cons, List.length_nil]; omega
    · exact h0
  split
  · unfold holdP; split
    · show (unmvP (brokenP s)).hk.length ≤ 3
      rw [unmv_hk]; omega
    · exact h0
  split
  · unfold returnP; split
    · simp [overP, toP, tellP, outP]
    · split
      · exact h0
      · exact h0
  split
  · unfold frameP; split <;> exact h0
  split
  · unfold finishP; split
    · have := end_hk s 3; omega
    · exact h0
  split
  · unfold cancelP; rw [unmv_hk]; have := end_hk s 4; omega
  split
  · show (cancelP s).hk.length ≤ 3
    unfold cancelP; rw [unmv_hk]; have := end_hk s 4; omega
  split
  · unfold shiftP; split
    · show (unmvP (outP s)).hk.length ≤ 3
      rw [unmv_hk]; exact h0
    · exact h0
  split
  · unfold mframeP; split <;> exact h0
  · unfold mfinishP; split
    · rw [unmv_hk]; exact h0
    · exact h0
theorem due_hk (k : Int) (s : PS) : (dueO k s).hk = [] := by
  unfold dueO
  split
  · unfold frameP; split <;> rfl
  · unfold mframeP; split <;> rfl
theorem over_hk (k : Int) (s : PS) : (overO k s).hk.length ≤ 1 := by
  have h0 : (outP s).hk.length ≤ 1 := Nat.zero_le _
  unfold overO
  split
  · unfold finishP; split
    · exact end_hk s 3
    · exact h0
  · unfold mfinishP; split
    · rw [unmv_hk]; exact h0
    · exact h0
end Go.Proofs.YthodcfdgahfniaaGreat
namespace Go.Proofs.YthodcfdgahfniaaGreat
variable {df : List Deferred}
open Go.RowKit

theorem St.two {B : Bs} {w : World} {L L' L'' : List HP} {b b' : Nat} {vs vs' : List Value} {E E' : TypeId} (h : St B L w) (h1 : At (pts b vs E) L L') (h2 : At (pts b' vs' E') L' L'') : b ≠ b' := by
  obtain ⟨F, _, hS⟩ := h.own
  obtain ⟨F1, F2, _, _, h3, h4, h5⟩ := hS.pull h1
  obtain ⟨G1, G2, g1, _, _, g4, _⟩ := h5.pull h2
  intro e
  subst e
  exact h3 b h4.1 (g1 b g4.1)

section
variable {P : Program} {a : Act} {w w' : World} {w0 : Bs} {n : Nat} {l : List (Nat × Value)} {L L' : List HP}
  {dst : Option Nat} {R : Value → World → Prop} {ty : TypeId} {pos : String} {af : Array Edge} {g : Option (Nat × Bool)}

theorem g_slFc {x y : Operand} {t E k m c b o : Nat} {p : Int} {kk : IntKind} (i : Nat) (hk : Kn df n a l) (h : R (.slice (some ⟨b, o + i * (k + 1), none⟩) (m - i) (c - i)) w)
    (hx : ev l x = some (.slice (some ⟨b, o, none⟩) m c) := by rfl) (hy : ev l y = some (.int kk p) := by rfl) (ht : elOf P t = some E) (hE : szOf P E = some (k + 1)) (hp : p = (i : Int)) (him : i ≤ m) (hc : i < c) :
    Gives P ⟨dst, .slice t x (some y) none none, ty, pos, af, g⟩ a w R := by
  subst hp
  refine givesv (v := .slice (some ⟨b, o + i * (k + 1), none⟩) (m - i) (c - i)) ?_ h
  have h1 : ¬ c = i := by omega
  simp [execOp, hk.eval hx, hk.eval hy, Instr.sliceAt, Instr.slice, run_underlying (elOf_und ht), Instr.sliceBounds, Instr.sliceBound, asIntOf, him, szOf_run hE, h1, addr_add]

theorem g_slTc {x y : Operand} {t E k m c b o : Nat} {p : Int} {kk : IntKind} (j : Nat) (hk : Kn df n a l) (h : R (.slice (some ⟨b, o, none⟩) j c) w)
    (hx : ev l x = some (.slice (some ⟨b, o, none⟩) m c) := by rfl) (hy : ev l y = some (.int kk p) := by rfl) (ht : elOf P t = some E) (hE : szOf P E = some (k + 1)) (hp : p = (j : Int)) (hj : j ≤ c) :
    Gives P ⟨dst, .slice t x none (some y) none, ty, pos, af, g⟩ a w R := by
  subst hp
  refine givesv (v := .slice (some ⟨b, o, none⟩) j c) ?_ h
  have e : (⟨b, o, none⟩ : Addr).add 0 = ⟨b, o, none⟩ := rfl
  by_cases h0 : c = 0
  · have hj0 : j = 0 := by omega
    subst h0 hj0
    simp [execOp, hk.eval hx, hk.eval hy, Instr.sliceAt, Instr.slice, run_underlying (elOf_und ht), Instr.sliceBounds, Instr.sliceBound, asIntOf, szOf_run hE]
  simp [execOp, hk.eval hx, hk.eval hy, Instr.sliceAt, Instr.slice, run_underlying (elOf_und ht), Instr.sliceBounds, Instr.sliceBound, asIntOf, hj, szOf_run hE, h0, e]

theorem g_capC {x : Operand} {t E m c : Nat} {ao : Option Addr} (hk : Kn df n a l) (h : R (.int .i64 c) w) (hx : ev l x = some (.slice ao m c) := by rfl) (ht : elOf P t = some E) :
    Gives P ⟨dst, .call { callee := .builtin .cap, args := #[x], argTypes := #[t] }, ty, pos, af, g⟩ a w R := by
  refine givesv (v := .int .i64 c) ?_ h
  simp [execOp, resolve, invoke, builtin, hk.eval hx, Builtin.cap_, run_underlying (elOf_und ht), goInt]

theorem g_copyC {x y : Operand} {t tx E k b o dn dc sb so sn sc q : Nat} {vs cs : List Value} {E' : TypeId} (hk : Kn df n a l) (hS : St w0 L w)
    (h : ∀ w', St w0 (pts b (splice vs o cs) E' :: L') w' → R (.int .i64 (q : Int)) w')
    (hx : ev l x = some (.slice (some ⟨b, o, none⟩) dn dc) := by rfl) (hy : ev l y = some (.slice (some ⟨sb, so, none⟩) sn sc) := by rfl)
    (hat : At (pts b vs E') L L' := by (repeat (first | exact At.here | apply At.there))) (ht : elOf P t = some E) (hE : szOf P E = some (k + 1)) (hq : q = Nat.min sn dn) (hl : cs.length = q * (k + 1))
    (hsrc : Cells sb so cs w) (h1 : ∀ u ∈ cs, u.oneCell' = true) (hfit : o + cs.length ≤ vs.length) :
    Gives P ⟨dst, .call { callee := .builtin .copy, args := #[x, y], argTypes := #[t, tx] }, ty, pos, af, g⟩ a w R := by
  obtain ⟨w', hr, hS'⟩ := run_storeCells_own (P := P) cs o 0 vs w hS hat h1 (by simpa using hfit)
  simp only [Nat.add_zero] at hS'
  refine givesv (v := .int .i64 (q : Int)) (w' := w') ?_ (h w' hS')
  have hf := run_firstCells_some (P := P) (w := w) (k + 1) q ⟨sb, so, none⟩ sn sc cs hl (fun j v hj => by rw [addr_add]; exact hsrc j v hj)
  simp [execOp, resolve, invoke, builtin, hk.eval hx, hk.eval hy, Builtin.copy_, run_underlying (elOf_und ht), Builtin.lenOf, szOf_run hE, ← hq, hf, hr, goInt]

theorem g_appZ {x y : Operand} {t tx E k b o i c q by_ : Nat} {z : Value} {cs : List Value} {kn : IntKind} (hk : Kn df n a l) (hS : St w0 L w)
    (h : ∀ (w' : World) (b' c' : Nat) (us : List Value), i + q ≤ c' → c' ≤ maxLen → us.length = c' * (k + 1) → (∀ (j : Nat) (u : Value), cs[j]? = some u → us[j]? = some u) → (∀ u ∈ us, u.oneCell' = true) → St w0 (pts b' us E :: L) w' → R (.slice (some ⟨b', 0, none⟩) (i + q) c') w')
    (hx : ev l x = some (.slice (some ⟨b, o, none⟩) i c) := by rfl) {p : Int} (hy : ev l y = some (.int .i64 p) := by rfl) (hp : p = (q : Int)) (ht : elOf P t = some E) (htx : P.underlying tx = some (.int kn)) (hE : szOf P E = some (k + 1)) (hz : zeroOf P E = some z) (hzs : z.cells.size = k + 1) (hz1 : ∀ u ∈ z.cells.toList, u.oneCell' = true)
    (hby : ((P.info? E).map (·.bytes)).getD 0 = by_) (h0 : 0 < q) (hc : c < i + q) (hl : cs.length = i * (k + 1)) (hcs : Cells b o cs w) (h1 : ∀ u ∈ cs, u.oneCell' = true) (hbytes : (i + q) * by_ ≤ 140737488355328) (h63 : i + q ≤ maxLen) :
    Gives P ⟨dst, .call { callee := .builtin .append, args := #[x, y], argTypes := #[t, tx] }, ty, pos, af, g⟩ a w R := by
  subst hp
  obtain ⟨inf, hi, his, hiz⟩ := byOf_info hE hz
  have hib : inf.bytes = by_ := by rw [hi] at hby; exact hby
  have hold : (Builtin.firstCells inf.size i (.slice (some ⟨b, o, none⟩) i c)).run P w.drew = .ok cs.toArray w.drew := by
    rw [his]
    exact run_firstCells_some w.drew (k + 1) i ⟨b, o, none⟩ i c cs hl (fun j v hj => by rw [addr_add]; exact hcs j v hj)
  have hqb : q * inf.bytes ≤ 281474976710656 := by
    rw [hib]
    have : q * by_ ≤ (i + q) * by_ := Nat.mul_le_mul_right _ (by omega)
    omega
  have hr := Lib.run_append_grow_zeros (P := P) w t tx ty E inf z .i64 kn (elOf_und ht) htx hi hiz (some ⟨b, o, none⟩) i c cs hold q h0 (by omega) hc (by simp only [maxLen] at h63; omega) hqb (growslice_fits hc (by rw [hib]; exact hbytes))
  have hge := grownCap_ge w (i + q) c E
  have hcm := grownCap_le_maxLen w (i + q) c E h63
  generalize grownCap w (i + q) c E = gc at *
  have hal := hS.drew.alloc (cs ++ (Builtin.zeroCells z.cells q).toList ++ (Builtin.zeroCells z.cells (gc - (i + q))).toList) E
  have hww : (w.drew.alloc (.cells (cs ++ (Builtin.zeroCells z.cells q).toList ++ (Builtin.zeroCells z.cells (gc - (i + q))).toList).toArray E)) = w.drew.alloc (.cells (cs.toArray ++ Builtin.zeroCells z.cells q ++ Builtin.zeroCells z.cells (gc - (i + q))) E) := by
    congr 2
    apply Array.ext'
    simp
  rw [hww] at hal
  have hz2 : ∀ m u, u ∈ (Builtin.zeroCells z.cells m).toList → u.oneCell' = true := by
    intro m u hu
    simp only [Builtin.zeroCells] at hu
    simp at hu
    obtain ⟨q, hq, rfl⟩ := hu
    have hlt : q % z.cells.size < z.cells.size := Nat.mod_lt _ (by rw [hzs]; omega)
    rw [getElem!_pos z.cells _ hlt]
    exact hz1 _ (by simp)
  refine givesv (v := .slice (some ⟨w.heap.size, 0, none⟩) (i + q) gc) (w' := _) ?_ (h _ _ gc _ hge hcm ?_ (fun j u hj => ?_) (fun u hu => ?_) hal)
  · simp [execOp, resolve, invoke, builtin, hk.eval hx, hk.eval hy, hr]
  · rw [List.length_append, List.length_append, hl, Array.length_toList, Array.length_toList, size_zeroCells, size_zeroCells, hzs, ← Nat.add_mul, ← Nat.add_mul]
    congr 1
    omega
  · have hlt : j < cs.length := by
      rcases Nat.lt_or_ge j cs.length with h' | h'
      · exact h'
      · rw [List.getElem?_eq_none h'] at hj; cases hj
    rw [List.append_assoc, List.getElem?_append_left hlt]
    exact hj
  · rw [List.mem_append, List.mem_append] at hu
    rcases hu with (hu | hu) | hu
    · exact h1 u hu
    · exact hz2 _ u hu
    · exact hz2 _ u hu

theorem g_ovl {x y : Operand} {f : FuncId} {fn : Func} {ts : Array TypeId} {tS tR E k b o m c b' o' m' c' : Nat} {vs vs' : List Value} {E1 E2 : TypeId} {L'' : List HP} (hk : Kn df n a l) (hS : St w0 L w) (h : R (.bool false) w)
    (hf : P.funcs[f]? = some fn) (hname : (fn.name == "runtime.NumGoroutine") = false) (hb : fn.body.isNone = true) (hn : Extern.findNext fn = none) (he : Extern.find fn = some (Extern.SlicesOverlaps.overlaps #[tS, tS] #[tR]))
    (hx : ev l x = some (.slice (some ⟨b, o, none⟩) m c) := by rfl) (hy : ev l y = some (.slice (some ⟨b', o', none⟩) m' c') := by rfl)
    (hat : At (pts b vs E1) L L' := by (repeat (first | exact At.here | apply At.there))) (hat2 : At (pts b' vs' E2) L' L'' := by (repeat (first | exact At.here | apply At.there)))
    (ht : elOf P tS = some E) (hE : szOf P E = some (k + 1)) (hne : vs' ≠ []) :
    Gives P ⟨dst, .call { callee := .value (.func f), args := #[x, y], argTypes := ts }, ty, pos, af, g⟩ a w R := by
  have hb1 := pts.block (hS.rd hat)
  have hb2 := pts.block ((hS.sub hat.rest).rd hat2)
  have hbb := hS.two hat hat2
  have hl' : vs'.toArray.size ≠ 0 := by
    rw [List.size_toArray]
    intro e
    exact hne (List.eq_nil_of_length_eq_zero e)
  have hr := Lib.run_overlaps_apart (P := P) w tS tR E (elOf_und ht) (k + 1) (szOf_run hE) ⟨b, o, none⟩ ⟨b', o', none⟩ m c m' c' hbb E1 E2 vs.toArray.size vs'.toArray.size (by simp [World.shape?, hb1]) (by simp [World.shape?, hb2]) hl' (by simp [World.frozen?, hb1]) (by simp [World.frozen?, hb1])
  refine givesv (v := .bool false) ?_ h
  have e : (execOp a.eval ⟨dst, .call { callee := .value (.func f), args := #[x, y], argTypes := ts }, ty, pos, af, g⟩) = callFunc f #[.slice (some ⟨b, o, none⟩) m c, .slice (some ⟨b', o', none⟩) m' c'] := by
    have e1 : (#[] ++ (#[x, y] : Array Operand).map a.eval ++ #[] : Array Value) = #[.slice (some ⟨b, o, none⟩) m c, .slice (some ⟨b', o', none⟩) m' c'] := by simp [hk.eval hx, hk.eval hy]
    rw [← e1]
    rfl
  rw [e, run_callFunc_extern hf hname hb hn he, hr]
  rfl
end

section
variable {α : Type}
def insF (xs : List α) (i : Nat) (e : α) : List α := xs.take i ++ e :: xs.drop i

theorem insF_len {xs : List α} {i : Nat} {e : α} (h : i ≤ xs.length) : (insF xs i e).length = xs.length + 1 := by
  unfold insF
  rw [List.length_append, List.length_take, List.length_cons, List.length_drop]
  omega
variable [Enc α]
theorem enc_ins (xs : List α) (i : Nat) (e : α) (hi : i ≤ xs.length) (j : Nat) : (enc (insF xs i e))[j]? =
    if j < i * (Enc.k α + 1) then (enc xs)[j]? else if j < (i + 1) * (Enc.k α + 1) then (Enc.f e)[j - i * (Enc.k α + 1)]? else (enc xs)[j - (Enc.k α + 1)]? := by
  have hl : (enc (xs.take i)).length = i * (Enc.k α + 1) := by rw [enc_len, List.length_take, Nat.min_eq_left hi]
  unfold insF
  rw [enc_append, enc_cons]
  by_cases h1 : j < i * (Enc.k α + 1)
  · rw [if_pos h1, List.getElem?_append_left (by rw [hl]; exact h1), ← enc_take, List.getElem?_take, if_pos h1]
  · rw [if_neg h1, List.getElem?_append_right (by rw [hl]; omega), hl]
    by_cases h2 : j < (i + 1) * (Enc.k α + 1)
    · rw [if_pos h2, List.getElem?_append_left (by rw [Enc.len]; rw [Nat.add_mul] at h2; omega)]
    · rw [if_neg h2]
      rw [Nat.add_mul] at h2
      rw [List.getElem?_append_right (by rw [Enc.len]; omega), Enc.len, ← enc_drop, List.getElem?_drop]
      congr 1
      omega

theorem St.toOwn {B : Bs} {w : World} {L L' : List HP} {b off cap : Nat} {vs : List Value} {E : TypeId} {ys : List α} (h : St B L w) (hat : At (pts b vs E) L L') (hn : ys.length ≤ cap) (hcm : cap ≤ maxLen) (hvl : off + cap * (Enc.k α + 1) ≤ vs.length)
    (hc : ∀ j u, (enc ys)[j]? = some u → vs[off + j]? = some u) : St B (OwT E ys (.slice (some ⟨b, off, none⟩) ys.length cap) :: L') w :=
  h.conv (As := [_]) hat (fun F hF => ⟨F, fun _ h => h, Sep.one ⟨by rw [enc_len], Nat.le_trans hn hcm, .inr ⟨b, off, cap, _, rfl, hF.1, hF.2.1, hF.2.2, hn, hcm, by simpa using hvl, fun j u hj => by simpa using hc j u hj⟩, fun c hc => (pts _ _ E).dom F _ c hF hc⟩⟩)

theorem enc_get_lt {xs : List α} {j : Nat} {u : Value} (h : (enc xs)[j]? = some u) : j < xs.length * (Enc.k α + 1) := by
  rw [← enc_len]
  rcases Nat.lt_or_ge j (enc xs).length with h' | h'
  · exact h'
  · rw [List.getElem?_eq_none h'] at h; cases h

theorem enc_single (e : α) : enc [e] = Enc.f e := by simp [enc]
theorem Cells.dropT {xs : List α} {vs : List Value} {b off : Nat} {E : TypeId} {w : World} (i : Nat) (hb : w.heap[b]? = some (.cells vs.toArray E (0, 0))) (hvs : ∀ (j : Nat) (u : Value), (enc xs)[j]? = some u → vs[off + j]? = some u) : Cells b (off + i * (Enc.k α + 1)) (enc (xs.drop i)) w := fun j u hj => by
  rw [cell_of_row w b _ _ E _ hb, List.getElem?_toArray, Nat.add_assoc]
  exact hvs _ u (by rw [← List.getElem?_drop, enc_drop]; exact hj)
theorem Cells.takeT {xs : List α} {vs : List Value} {b off : Nat} {E : TypeId} {w : World} (i : Nat) (hb : w.heap[b]? = some (.cells vs.toArray E (0, 0))) (hvs : ∀ (j : Nat) (u : Value), (enc xs)[j]? = some u → vs[off + j]? = some u) : Cells b off (enc (xs.take i)) w := fun j u hj => by
  rw [cell_of_row w b _ _ E _ hb, List.getElem?_toArray]
  refine hvs _ u ?_
  rw [← enc_take, List.getElem?_take] at hj
  split at hj
  · exact hj
  · cases hj

theorem ins_cells {xs : List α} {i off : Nat} {e : α} {vs vs0 : List Value} (hi : i < xs.length) (hvl : off + (xs.length + 1) * (Enc.k α + 1) ≤ vs.length)
    (h0 : ∀ j u, (enc (xs.take i))[j]? = some u → vs[off + j]? = some u)
    (hvs0 : vs0 = splice (splice vs (off + (i + 1) * (Enc.k α + 1)) (enc (xs.drop i))) (off + i * (Enc.k α + 1)) (Enc.f e) ∨ vs0 = splice (splice vs (off + i * (Enc.k α + 1)) (Enc.f e)) (off + (i + 1) * (Enc.k α + 1)) (enc (xs.drop i))) :
    vs0.length = vs.length ∧ ∀ j u, (enc (insF xs i e))[j]? = some u → vs0[off + j]? = some u := by
  have hdl : (enc (xs.drop i)).length = (xs.length - i) * (Enc.k α + 1) := by rw [enc_len, List.length_drop]
  have e1 : xs.length * (Enc.k α + 1) = i * (Enc.k α + 1) + (xs.length - i) * (Enc.k α + 1) := by rw [← Nat.add_mul]; congr 1; omega
  have e2 : (i + 1) * (Enc.k α + 1) = i * (Enc.k α + 1) + (Enc.k α + 1) := Nat.succ_mul _ _
  have e3 : (xs.length + 1) * (Enc.k α + 1) = xs.length * (Enc.k α + 1) + (Enc.k α + 1) := Nat.succ_mul _ _
  have hf := Enc.len e
  have hxl := enc_len xs
  have hins := fun j => enc_ins xs i e (by omega) j
  have htk : ∀ j, j < i * (Enc.k α + 1) → (enc (xs.take i))[j]? = (enc xs)[j]? := fun j hj => by rw [← enc_take, List.getElem?_take, if_pos hj]
  have hdr : ∀ j, (enc (xs.drop i))[j]? = (enc xs)[i * (Enc.k α + 1) + j]? := fun j => by rw [← enc_drop, List.getElem?_drop]
  generalize (xs.length - i) * (Enc.k α + 1) = D at *
  generalize (xs.length + 1) * (Enc.k α + 1) = N1 at *
  generalize xs.length * (Enc.k α + 1) = N at *
  generalize (i + 1) * (Enc.k α + 1) = I1 at *
  generalize hI : i * (Enc.k α + 1) = I at *
  generalize Enc.k α + 1 = K at *
  have hlen : ∀ (a b : List Value) (o : Nat), (splice a o b).length = a.length := fun a b o => splice_len b o a
  rcases hvs0 with rfl | rfl
  · refine ⟨by rw [hlen, hlen], fun j u hj => ?_⟩
    rw [splice_get _ _ _ _ (by rw [hlen, hf]; omega), splice_get _ _ _ _ (by rw [hdl]; omega), hf, hdl]
    rw [hins] at hj
    by_cases h1 : j < I
    · rw [if_pos h1] at hj
      rw [if_neg (by omega), if_neg (by omega)]
      exact h0 j u (by rw [htk j h1]; exact hj)
    · rw [if_neg h1] at hj
      by_cases h2 : j < I1
      · rw [if_pos h2] at hj
        rw [if_pos (by omega), show off + j - (off + I) = j - I by omega]
        exact hj
      · rw [if_neg h2] at hj
        have hlt : j - K < (enc xs).length := by
          rcases Nat.lt_or_ge (j - K) (enc xs).length with h' | h'
          · exact h'
          · rw [List.getElem?_eq_none h'] at hj; cases hj
        rw [if_neg (by omega), if_pos (by omega), hdr, show I + (off + j - (off + I1)) = j - K by omega]
        exact hj
  · refine ⟨by rw [hlen, hlen], fun j u hj => ?_⟩
    rw [splice_get _ _ _ _ (by rw [hlen, hdl]; omega), splice_get _ _ _ _ (by rw [hf]; omega), hf, hdl]
    rw [hins] at hj
    by_cases h1 : j < I
    · rw [if_pos h1] at hj
      rw [if_neg (by omega), if_neg (by omega)]
      exact h0 j u (by rw [htk j h1]; exact hj)
    · rw [if_neg h1] at hj
      by_cases h2 : j < I1
      · rw [if_pos h2] at hj
        rw [if_neg (by omega), if_pos (by omega), show off + j - (off + I) = j - I by omega]
        exact hj
      · rw [if_neg h2] at hj
        have hlt : j - K < (enc xs).length := by
          rcases Nat.lt_or_ge (j - K) (enc xs).length with h' | h'
          · exact h'
          · rw [List.getElem?_eq_none h'] at hj; cases hj
        rw [if_pos (by omega), hdr, show I + (off + j - (off + I1)) = j - K by omega]
        exact hj
end
end Go.Proofs.YthodcfdgahfniaaGreat

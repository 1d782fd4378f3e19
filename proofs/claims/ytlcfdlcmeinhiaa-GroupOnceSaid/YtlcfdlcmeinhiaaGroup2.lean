/- Layer 25: the document's way. -/
import Derived.Test.YtlcfdlcmeinhiaaGroup
namespace Go.Proofs.Ytlcfdlcmeinhiaa
open Go.RowKit
set_option maxRecDepth 100000
attribute [local irreducible] Go.Code.wp Go.wpList Go.Calls Gives Go.Exit.then Go.Exit.inBlock Done ObxE

/-- The first one of a key that is, or isn't, a ghost. -/
def fstN (l : List Kid) (g : Bool) (k : ByteArray) : Nat → Option Nat
  | 0 => none
  | n + 1 => match fstN l g k n with
    | some j => some j
    | none => if l[n]? = some (k, g) then some n else none
theorem fst_lt {l : List Kid} {g : Bool} {k : ByteArray} : ∀ {n j : Nat}, fstN l g k n = some j → j < l.length
  | 0, _, h => by simp [fstN] at h
  | n + 1, j, h => by
    simp only [fstN] at h
    split at h
    · injection h with h; subst h; exact fst_lt (by assumption)
    · split at h
      · injection h with h; subst h; exact lt_of_get (by assumption)
      · cases h
theorem bst_fst (l : List Kid) (k : ByteArray) : ∀ n, bstN l n k = match fstN l false k n with | some j => some (j, false) | none => match fstN l true k n with | some j => some (j, true) | none => none
  | 0 => rfl
  | n + 1 => by
    have ih := bst_fst l k n
    cases hx : l[n]? with
    | none => simp only [bstN, fstN, hx, ih]; cases fstN l false k n <;> cases fstN l true k n <;> simp
    | some p =>
      obtain ⟨key, gh⟩ := p
      rw [bstN_succ hx, ih]
      simp only [fstN, hx]
      by_cases hk : k = key
      · subst hk
        cases fstN l false k n <;> cases fstN l true k n <;> cases gh <;> simp [betterF]
      · have hk' : ¬ key = k := fun e => hk e.symm
        cases fstN l false k n <;> cases fstN l true k n <;> simp [hk, hk']
def orPl (a b : Int) : Int := if a < 0 then b else a
theorem atF_fst {old : List Kid} {keys : List ByteArray} {i : Nat} {key : ByteArray} (h : keys[i]? = some key) : atF old keys i = if inK (keys.take i) key = true then -1 else match fstN old false key old.length with | some j => (j : Int) | none => match fstN old true key old.length with | some j => (j : Int) | none => -1 := by
  unfold atF
  rw [h]
  simp only
  split
  · rfl
  · unfold bst
    rw [bst_fst]
    cases fstN old false key old.length <;> cases fstN old true key old.length <;> rfl
def plO (o : Option Nat) : Int := match o with | none => -1 | some j => j
theorem plO_none : plO none = -1 := rfl
theorem plO_some (j : Nat) : plO (some j) = (j : Int) := rfl
theorem plO_neg (j : Nat) : ¬ plO (some j) < 0 := by rw [plO_some]; omega
theorem plO_no : plO none < 0 := by rw [plO_none]; omega
theorem pl_fst {l : List Kid} {g : Bool} {k : ByteArray} {n : Nat} {key : ByteArray} {gh : Bool} (h : l[n]? = some (key, gh)) : plO (fstN l g k (n + 1)) = if plO (fstN l g k n) < 0 ∧ key = k ∧ gh = g then (n : Int) else plO (fstN l g k n) := by
  simp only [fstN, h]
  cases fstN l g k n with
  | some j => show plO (some j) = _; rw [if_neg (fun h => plO_neg j h.1)]
  | none =>
    show plO (if some (key, gh) = some (k, g) then some n else none) = _
    by_cases e : key = k ∧ gh = g
    · rw [if_pos (show some (key, gh) = some (k, g) by rw [e.1, e.2]), if_pos ⟨plO_no, e.1, e.2⟩]; rfl
    · rw [if_neg (show ¬ some (key, gh) = some (k, g) from fun h => e (by injection h with h; injection h with h1 h2; exact ⟨h1, h2⟩)), if_neg (fun h => e h.2)]
/-- The place that is found by round i. -/
def rndF (old : List Kid) (key : ByteArray) : Nat → Int
  | 0 => -1
  | 1 => plO (fstN old false key old.length)
  | _ => orPl (plO (fstN old false key old.length)) (plO (fstN old true key old.length))
theorem rnd_lt (old : List Kid) (key : ByteArray) (i : Nat) : -1 ≤ rndF old key i ∧ rndF old key i < old.length := by
  have h : ∀ g, -1 ≤ plO (fstN old g key old.length) ∧ (plO (fstN old g key old.length) = -1 ∨ plO (fstN old g key old.length) < old.length) := by
    intro g
    cases hf : fstN old g key old.length with
    | none => simp only [plO_none]; omega
    | some j => have := fst_lt hf; simp only [plO_some]; omega
  have h1 := h false
  have h2 := h true
  match i with
  | 0 => simp only [rndF]; omega
  | 1 => simp only [rndF]; omega
  | n + 2 => simp only [rndF, orPl]; split <;> omega
theorem atF_rnd {old : List Kid} {keys : List ByteArray} {i : Nat} {key : ByteArray} (h : keys[i]? = some key) : atF old keys i = if inK (keys.take i) key = true then -1 else rndF old key 2 := by
  rw [atF_fst h]
  congr 1
  simp only [rndF, orPl]
  cases fstN old false key old.length with
  | some j => rw [if_neg (plO_neg j)]; rfl
  | none =>
    rw [if_pos plO_no]
    cases fstN old true key old.length <;> rfl

theorem in25_any (l : List Int) (x : Int) (v : Value) (w0 : World) (hv : SlT l v w0) (hl : l.length ≤ 1000) : Calls Try.prog 43 #[v, .int .i64 x] w0 (Ret fun v w => v = .bool (decide (x ∈ l)) ∧ St w0 [] w) := by
  refine enter Try.func43 rfl Try.ntmps43 rfl (fun a hk => ?_); have hS := St.refl w0
  (repeat' (first | (show wpList _ _ _ (_ :: _) _ _; first | (refine st hk ?_; clear hk a; intro a hk) | (refine st_skip hk ?_; clear hk a; intro a hk) | (refine s_skip0 hk ?_; clear hk a; intro a hk) | (first | refine st_lss hk ?_ ?_ | refine st_leq hk ?_ ?_ | refine st_gtr hk ?_ ?_ | refine st_geq hk ?_ ?_ | refine st_eqi hk ?_ ?_ | refine st_nei hk ?_ ?_ | refine st_eqS hk ?_ ?_ | refine st_neS hk ?_ ?_ | refine st_eqs hk ?_ ?_ | refine st_nes hk ?_ ?_) <;> (intro hp; clear hk a; intro a hk) | (first | refine st_box hk hS ?_ | refine st_alloc hk hS ?_); clear hk hS a; intro w b hS a hk | (first | refine st_store hk hS ?_ | refine st_stI hk hS ?_ | refine st_stB hk hS ?_ | refine st_stS hk hS ?_); clear hk hS a; intro w hS a hk | (first | refine st_bs1I hk hS ?_ | refine st_bs1S hk hS ?_ | refine st_app1 hk hS ?_ | refine st_appE hk hS ?_); clear hk hS a; intro w v hS a hk | fail) | refine wp_seq ?_ | refine wp_block ?_ | refine wp_region_lit ?_ | refine q_then ?_ | refine q_thenE ?_ | refine q_thenR ?_ | refine q_inN ?_ | refine q_inR ?_ | refine q_inE ?_ | refine q_inO ?_ | refine wp_skip ?_ | refine wp_ret ?_ | refine wp_exit ?_ | (refine s_end hk ?_; clear hk a; intro a hk) | refine c_true hk ?_ | refine c_false hk ?_ | fail))
  replace hk := Kn.kp [1, 7, 8, 9] hk
  refine wp_for l.length (fun i _ => [(9, .int .i64 (i : Int))]) (fun _ _ => []) (fun i _ => ∀ j (h : j < l.length), j < i → l[j] ≠ x) () hk (by repeat (first | exact trivial | refine ⟨rfl, ?_⟩)) hS (fun j _ hj => by omega) ?_
  clear hk hS a
  rintro i _ a w hi hk hS hF
  (repeat' (first | (show wpList _ _ _ (_ :: _) _ _; first | (refine st hk ?_; clear hk a; intro a hk) | (refine st_skip hk ?_; clear hk a; intro a hk) | (refine s_skip0 hk ?_; clear hk a; intro a hk) | (first | refine st_lss hk ?_ ?_ | refine st_leq hk ?_ ?_ | refine st_gtr hk ?_ ?_ | refine st_geq hk ?_ ?_ | refine st_eqi hk ?_ ?_ | refine st_nei hk ?_ ?_ | refine st_eqS hk ?_ ?_ | refine st_neS hk ?_ ?_ | refine st_eqs hk ?_ ?_ | refine st_nes hk ?_ ?_) <;> (intro hp; clear hk a; intro a hk) | (first | refine st_box hk hS ?_ | refine st_alloc hk hS ?_); clear hk hS a; intro w b hS a hk | (first | refine st_store hk hS ?_ | refine st_stI hk hS ?_ | refine st_stB hk hS ?_ | refine st_stS hk hS ?_); clear hk hS a; intro w hS a hk | (first | refine st_bs1I hk hS ?_ | refine st_bs1S hk hS ?_ | refine st_app1 hk hS ?_ | refine st_appE hk hS ?_); clear hk hS a; intro w v hS a hk | fail) | refine wp_seq ?_ | refine wp_block ?_ | refine wp_region_lit ?_ | refine q_then ?_ | refine q_thenE ?_ | refine q_thenR ?_ | refine q_inN ?_ | refine q_inR ?_ | refine q_inE ?_ | refine q_inO ?_ | refine wp_skip ?_ | refine wp_ret ?_ | refine wp_exit ?_ | (refine s_end hk ?_; clear hk a; intro a hk) | refine c_true hk ?_ | refine c_false hk ?_ | fail))
  · have e : l[i]'(by omega) = x := by assumption
    exact done1 hk (h := ⟨by rw [decide_eq_true (e ▸ List.getElem_mem _)], hS.nil⟩)
  · have e : ¬ l[i]'(by omega) = x := by assumption
    refine ⟨by omega, (), hk.sd, hS, fun j h hj => ?_⟩
    by_cases e2 : j = i
    · subst e2; exact e
    · exact hF j h (by omega)
  · refine done1 hk (h := ⟨?_, hS.nil⟩)
    rw [decide_eq_false]
    intro hx
    obtain ⟨j, hj, e⟩ := List.getElem_of_mem hx
    exact hF j hj (by omega) e

set_option maxHeartbeats 1000000 in
theorem take_any (old : List Kid) (keys : List ByteArray) (hl : old.length ≤ 1000) (hn : keys.length ≤ 1000) (vo vk : Value) (w0 : World) (ho : SlT old vo w0) (hv : SlT keys vk w0) :
    Calls Try.prog 17 #[vo, vk] w0 (Ret fun v w => St w0 [OwT 3 (takeN old keys keys.length) v] w) := by
  refine enter Try.func17 rfl Try.ntmps17 rfl (fun a hk => ?_); have hS := St.refl w0
  (repeat' (first | (show wpList _ _ _ (_ :: _) _ _; first | (refine st hk ?_; clear hk a; intro a hk) | (refine st_skip hk ?_; clear hk a; intro a hk) | (refine s_skip0 hk ?_; clear hk a; intro a hk) | (first | refine st_lss hk ?_ ?_ | refine st_leq hk ?_ ?_ | refine st_gtr hk ?_ ?_ | refine st_geq hk ?_ ?_ | refine st_eqi hk ?_ ?_ | refine st_nei hk ?_ ?_ | refine st_eqS hk ?_ ?_ | refine st_neS hk ?_ ?_ | refine st_eqs hk ?_ ?_ | refine st_nes hk ?_ ?_) <;> (intro hp; clear hk a; intro a hk) | (first | refine st_box hk hS ?_ | refine st_alloc hk hS ?_); clear hk hS a; intro w b hS a hk | (first | refine st_store hk hS ?_ | refine st_stI hk hS ?_ | refine st_stB hk hS ?_ | refine st_stS hk hS ?_); clear hk hS a; intro w hS a hk | (first | refine st_bs1I hk hS ?_ | refine st_bs1S hk hS ?_ | refine st_app1 hk hS ?_ | refine st_appE hk hS ?_); clear hk hS a; intro w v hS a hk | fail) | refine wp_seq ?_ | refine wp_block ?_ | refine wp_region_lit ?_ | refine q_then ?_ | refine q_thenE ?_ | refine q_thenR ?_ | refine q_inN ?_ | refine q_inR ?_ | refine q_inE ?_ | refine q_inO ?_ | refine wp_skip ?_ | refine wp_ret ?_ | refine wp_exit ?_ | (refine s_end hk ?_; clear hk a; intro a hk) | refine c_true hk ?_ | refine c_false hk ?_ | fail))
  refine sg hk (g_bs0 Int hS ?_ (hT := eT rfl) (hE := zT rfl)); clear hk hS a; intro w v hS a hk
  (repeat' (first | (show wpList _ _ _ (_ :: _) _ _; first | (refine st hk ?_; clear hk a; intro a hk) | (refine st_skip hk ?_; clear hk a; intro a hk) | (refine s_skip0 hk ?_; clear hk a; intro a hk) | (first | refine st_lss hk ?_ ?_ | refine st_leq hk ?_ ?_ | refine st_gtr hk ?_ ?_ | refine st_geq hk ?_ ?_ | refine st_eqi hk ?_ ?_ | refine st_nei hk ?_ ?_ | refine st_eqS hk ?_ ?_ | refine st_neS hk ?_ ?_ | refine st_eqs hk ?_ ?_ | refine st_nes hk ?_ ?_) <;> (intro hp; clear hk a; intro a hk) | (first | refine st_box hk hS ?_ | refine st_alloc hk hS ?_); clear hk hS a; intro w b hS a hk | (first | refine st_store hk hS ?_ | refine st_stI hk hS ?_ | refine st_stB hk hS ?_ | refine st_stS hk hS ?_); clear hk hS a; intro w hS a hk | (first | refine st_bs1I hk hS ?_ | refine st_bs1S hk hS ?_ | refine st_app1 hk hS ?_ | refine st_appE hk hS ?_); clear hk hS a; intro w v hS a hk | fail) | refine wp_seq ?_ | refine wp_block ?_ | refine wp_region_lit ?_ | refine q_then ?_ | refine q_thenE ?_ | refine q_thenR ?_ | refine q_inN ?_ | refine q_inR ?_ | refine q_inE ?_ | refine q_inO ?_ | refine wp_skip ?_ | refine wp_ret ?_ | refine wp_exit ?_ | (refine s_end hk ?_; clear hk a; intro a hk) | refine c_true hk ?_ | refine c_false hk ?_ | fail))
  replace hk := Kn.kp [0, 1, 5, 16, 17, 18] hk
  refine wp_for keys.length (fun i v => [(5, v), (18, .int .i64 (i : Int))]) (fun i v => [OwT 3 (takeN old keys i) v]) (fun _ _ => True) v hk (by repeat (first | exact trivial | refine ⟨rfl, ?_⟩)) hS trivial ?_
  clear hk hS a
  rintro i vt a w hi hk hS -
  have htl := takeN_len old keys i
  (repeat' (first | (show wpList _ _ _ (_ :: _) _ _; first | (refine st hk ?_; clear hk a; intro a hk) | (refine st_skip hk ?_; clear hk a; intro a hk) | (refine s_skip0 hk ?_; clear hk a; intro a hk) | (first | refine st_lss hk ?_ ?_ | refine st_leq hk ?_ ?_ | refine st_gtr hk ?_ ?_ | refine st_geq hk ?_ ?_ | refine st_eqi hk ?_ ?_ | refine st_nei hk ?_ ?_ | refine st_eqS hk ?_ ?_ | refine st_neS hk ?_ ?_ | refine st_eqs hk ?_ ?_ | refine st_nes hk ?_ ?_) <;> (intro hp; clear hk a; intro a hk) | (first | refine st_box hk hS ?_ | refine st_alloc hk hS ?_); clear hk hS a; intro w b hS a hk | (first | refine st_store hk hS ?_ | refine st_stI hk hS ?_ | refine st_stB hk hS ?_ | refine st_stS hk hS ?_); clear hk hS a; intro w hS a hk | (first | refine st_bs1I hk hS ?_ | refine st_bs1S hk hS ?_ | refine st_app1 hk hS ?_ | refine st_appE hk hS ?_); clear hk hS a; intro w v hS a hk | fail) | refine wp_seq ?_ | refine wp_block ?_ | refine wp_region_lit ?_ | refine q_then ?_ | refine q_thenE ?_ | refine q_thenR ?_ | refine q_inN ?_ | refine q_inR ?_ | refine q_inE ?_ | refine q_inO ?_ | refine wp_skip ?_ | refine wp_ret ?_ | refine wp_exit ?_ | (refine s_end hk ?_; clear hk a; intro a hk) | refine c_true hk ?_ | refine c_false hk ?_ | fail))
  · have hil : i < keys.length := by omega
    generalize hkey : keys[i] = key at *
    have hgk : keys[i]? = some key := by rw [← hkey]; exact List.getElem?_eq_getElem hil
    refine sg hk (g_bsT (xs := [false, true]) (m := 1) hk hS ?_ (hT := eT rfl) (hE := zT rfl) (hz := oT rfl)); clear hk hS a; intro w vb hS a hk
    (repeat' (first | (show wpList _ _ _ (_ :: _) _ _; first | (refine st hk ?_; clear hk a; intro a hk) | (refine st_skip hk ?_; clear hk a; intro a hk) | (refine s_skip0 hk ?_; clear hk a; intro a hk) | (first | refine st_lss hk ?_ ?_ | refine st_leq hk ?_ ?_ | refine st_gtr hk ?_ ?_ | refine st_geq hk ?_ ?_ | refine st_eqi hk ?_ ?_ | refine st_nei hk ?_ ?_ | refine st_eqS hk ?_ ?_ | refine st_neS hk ?_ ?_ | refine st_eqs hk ?_ ?_ | refine st_nes hk ?_ ?_) <;> (intro hp; clear hk a; intro a hk) | (first | refine st_box hk hS ?_ | refine st_alloc hk hS ?_); clear hk hS a; intro w b hS a hk | (first | refine st_store hk hS ?_ | refine st_stI hk hS ?_ | refine st_stB hk hS ?_ | refine st_stS hk hS ?_); clear hk hS a; intro w hS a hk | (first | refine st_bs1I hk hS ?_ | refine st_bs1S hk hS ?_ | refine st_app1 hk hS ?_ | refine st_appE hk hS ?_); clear hk hS a; intro w v hS a hk | fail) | refine wp_seq ?_ | refine wp_block ?_ | refine wp_region_lit ?_ | refine q_then ?_ | refine q_thenE ?_ | refine q_thenR ?_ | refine q_inN ?_ | refine q_inR ?_ | refine q_inE ?_ | refine q_inO ?_ | refine wp_skip ?_ | refine wp_ret ?_ | refine wp_exit ?_ | (refine s_end hk ?_; clear hk a; intro a hk) | refine c_true hk ?_ | refine c_false hk ?_ | fail))
    replace hk := Kn.kp [0, 1, 5, 6, 7, 8, 16, 17, 18, 23, 24, 25] hk
    refine wp_for 2 (fun q _ => [(8, .int .i64 (rndF old key q)), (25, .int .i64 (q : Int))]) (fun _ _ => [OwT 4 [false, true] vb, OwT 3 (takeN old keys i) vt]) (fun _ _ => True) () hk (by repeat (first | exact trivial | refine ⟨rfl, ?_⟩)) hS trivial ?_
    clear hk hS a
    rintro q _ a w hq hk hS -
    have h2 : ([false, true] : List Bool).length = 2 := rfl
    by_cases hq2 : q < 2
    · (repeat' (first | (show wpList _ _ _ (_ :: _) _ _; first | (refine st hk ?_; clear hk a; intro a hk) | (refine st_skip hk ?_; clear hk a; intro a hk) | (refine s_skip0 hk ?_; clear hk a; intro a hk) | (first | refine st_lss hk ?_ ?_ | refine st_leq hk ?_ ?_ | refine st_gtr hk ?_ ?_ | refine st_geq hk ?_ ?_ | refine st_eqi hk ?_ ?_ | refine st_nei hk ?_ ?_ | refine st_eqS hk ?_ ?_ | refine st_neS hk ?_ ?_ | refine st_eqs hk ?_ ?_ | refine st_nes hk ?_ ?_) <;> (intro hp; clear hk a; intro a hk) | (first | refine st_box hk hS ?_ | refine st_alloc hk hS ?_); clear hk hS a; intro w b hS a hk | (first | refine st_store hk hS ?_ | refine st_stI hk hS ?_ | refine st_stB hk hS ?_ | refine st_stS hk hS ?_); clear hk hS a; intro w hS a hk | (first | refine st_bs1I hk hS ?_ | refine st_bs1S hk hS ?_ | refine st_app1 hk hS ?_ | refine st_appE hk hS ?_); clear hk hS a; intro w v hS a hk | fail) | refine wp_seq ?_ | refine wp_block ?_ | refine wp_region_lit ?_ | refine q_then ?_ | refine q_thenE ?_ | refine q_thenR ?_ | refine q_inN ?_ | refine q_inR ?_ | refine q_inE ?_ | refine q_inO ?_ | refine wp_skip ?_ | refine wp_ret ?_ | refine wp_exit ?_ | (refine s_end hk ?_; clear hk a; intro a hk) | refine c_true hk ?_ | refine c_false hk ?_ | fail))
      obtain ⟨g, hg⟩ : ∃ g, ([false, true] : List Bool)[q]'hq2 = g := ⟨_, rfl⟩
      rw [hg] at hk
      have hnext : rndF old key (q + 1) = orPl (rndF old key q) (plO (fstN old g key old.length)) := by
        match q, hq2, hg with
        | 0, _, hg => cases hg; rfl
        | 1, _, hg => cases hg; rfl
      replace hk := Kn.kp [0, 1, 5, 6, 7, 8, 10, 16, 17, 18, 23, 24, 25, 29, 30, 31] hk
      refine wp_for old.length (fun m _ => [(8, .int .i64 (orPl (rndF old key q) (plO (fstN old g key m)))), (31, .int .i64 (m : Int))]) (fun _ _ => [OwT 4 [false, true] vb, OwT 3 (takeN old keys i) vt]) (fun _ _ => True) () hk ?_ hS trivial ?_
      · refine ⟨?_, rfl, trivial⟩
        have := rnd_lt old key q
        have e : orPl (rndF old key q) (plO (fstN old g key 0)) = rndF old key q := by
          simp only [orPl, fstN, plO_none]
          split <;> omega
        rw [e]; rfl
      clear hk hS a
      rintro m _ a w hm hk hS -
      by_cases hml : m < old.length
      · obtain ⟨⟨k', gh⟩, hx⟩ : ∃ x, old[m]? = some x := ⟨_, List.getElem?_eq_getElem hml⟩
        have hp := pl_fst (g := g) (k := key) hx
        have hr := rnd_lt old key q
        have hpl : -1 ≤ plO (fstN old g key m) := by
          cases fstN old g key m with
          | none => simp only [plO_none]; omega
          | some j => simp only [plO_some]; omega
        generalize plO (fstN old g key m) = pm at *
        generalize plO (fstN old g key (m + 1)) = pm1 at *
        generalize rndF old key q = r0 at *
        have yes : r0 < 0 → pm < 0 → k' = key → gh = g → orPl r0 pm1 = (m : Int) := fun h1 h2 h3 h4 => by
          rw [hp, if_pos ⟨h2, h3, h4⟩]; simp only [orPl]; rw [if_pos h1]
        have no1 : ¬ orPl r0 pm < 0 → orPl r0 pm1 = orPl r0 pm := fun h => by
          simp only [orPl] at *
          split at h <;> split <;> first | omega | (rw [hp, if_neg (fun e => by omega)])
        have no2 : ¬ (k' = key ∧ gh = g) → orPl r0 pm1 = orPl r0 pm := fun h => by
          rw [hp, if_neg (fun e => h e.2)]
        have neg : orPl r0 pm < 0 → r0 < 0 ∧ pm < 0 := fun h => by
          simp only [orPl] at h
          split at h <;> omega
        cases g <;> cases gh
        all_goals (repeat' (first | (show wpList _ _ _ (_ :: _) _ _; first | (refine st hk ?_; clear hk a; intro a hk) | (refine st_skip hk ?_; clear hk a; intro a hk) | (refine s_skip0 hk ?_; clear hk a; intro a hk) | (first | refine st_lss hk ?_ ?_ | refine st_leq hk ?_ ?_ | refine st_gtr hk ?_ ?_ | refine st_geq hk ?_ ?_ | refine st_eqi hk ?_ ?_ | refine st_nei hk ?_ ?_ | refine st_eqS hk ?_ ?_ | refine st_neS hk ?_ ?_ | refine st_eqs hk ?_ ?_ | refine st_nes hk ?_ ?_) <;> (intro hp; clear hk a; intro a hk) | (first | refine st_box hk hS ?_ | refine st_alloc hk hS ?_); clear hk hS a; intro w b hS a hk | (first | refine st_store hk hS ?_ | refine st_stI hk hS ?_ | refine st_stB hk hS ?_ | refine st_stS hk hS ?_); clear hk hS a; intro w hS a hk | (first | refine st_bs1I hk hS ?_ | refine st_bs1S hk hS ?_ | refine st_app1 hk hS ?_ | refine st_appE hk hS ?_); clear hk hS a; intro w v hS a hk | fail) | refine wp_seq ?_ | refine wp_block ?_ | refine wp_region_lit ?_ | refine q_then ?_ | refine q_thenE ?_ | refine q_thenR ?_ | refine q_inN ?_ | refine q_inR ?_ | refine q_inE ?_ | refine q_inO ?_ | refine wp_skip ?_ | refine wp_ret ?_ | refine wp_exit ?_ | (refine s_end hk ?_; clear hk a; intro a hk) | refine c_true hk ?_ | refine c_false hk ?_ | fail))
        all_goals first
          | (have e := no1 (by assumption); refine ⟨hml, (), ?_, hS.sb, trivial⟩; simp only [e]; exact hk.sd)
          | (have e := no2 (fun e => absurd e.1 (by assumption)); refine ⟨hml, (), ?_, hS.sb, trivial⟩; simp only [e]; exact hk.sd)
          | (have e := no2 (fun e => absurd e.2 (by decide)); refine ⟨hml, (), ?_, hS.sb, trivial⟩; simp only [e]; exact hk.sd)
          | (have e := yes (neg (by assumption)).1 (neg (by assumption)).2 (by assumption) rfl; refine ⟨hml, (), ?_, hS.sb, trivial⟩; simp only [e]; exact hk.sd)
          | trace_state
      · (repeat' (first | (show wpList _ _ _ (_ :: _) _ _; first | (refine st hk ?_; clear hk a; intro a hk) | (refine st_skip hk ?_; clear hk a; intro a hk) | (refine s_skip0 hk ?_; clear hk a; intro a hk) | (first | refine st_lss hk ?_ ?_ | refine st_leq hk ?_ ?_ | refine st_gtr hk ?_ ?_ | refine st_geq hk ?_ ?_ | refine st_eqi hk ?_ ?_ | refine st_nei hk ?_ ?_ | refine st_eqS hk ?_ ?_ | refine st_neS hk ?_ ?_ | refine st_eqs hk ?_ ?_ | refine st_nes hk ?_ ?_) <;> (intro hp; clear hk a; intro a hk) | (first | refine st_box hk hS ?_ | refine st_alloc hk hS ?_); clear hk hS a; intro w b hS a hk | (first | refine st_store hk hS ?_ | refine st_stI hk hS ?_ | refine st_stB hk hS ?_ | refine st_stS hk hS ?_); clear hk hS a; intro w hS a hk | (first | refine st_bs1I hk hS ?_ | refine st_bs1S hk hS ?_ | refine st_app1 hk hS ?_ | refine st_appE hk hS ?_); clear hk hS a; intro w v hS a hk | fail) | refine wp_seq ?_ | refine wp_block ?_ | refine wp_region_lit ?_ | refine q_then ?_ | refine q_thenE ?_ | refine q_thenR ?_ | refine q_inN ?_ | refine q_inR ?_ | refine q_inE ?_ | refine q_inO ?_ | refine wp_skip ?_ | refine wp_ret ?_ | refine wp_exit ?_ | (refine s_end hk ?_; clear hk a; intro a hk) | refine c_true hk ?_ | refine c_false hk ?_ | fail))
        have : m = old.length := by omega
        subst this
        rw [← hnext] at hk
        exact ⟨hq2, (), hk.sd, hS, trivial⟩
    · have : q = 2 := by omega
      subst this
      (repeat' (first | (show wpList _ _ _ (_ :: _) _ _; first | (refine st hk ?_; clear hk a; intro a hk) | (refine st_skip hk ?_; clear hk a; intro a hk) | (refine s_skip0 hk ?_; clear hk a; intro a hk) | (first | refine st_lss hk ?_ ?_ | refine st_leq hk ?_ ?_ | refine st_gtr hk ?_ ?_ | refine st_geq hk ?_ ?_ | refine st_eqi hk ?_ ?_ | refine st_nei hk ?_ ?_ | refine st_eqS hk ?_ ?_ | refine st_neS hk ?_ ?_ | refine st_eqs hk ?_ ?_ | refine st_nes hk ?_ ?_) <;> (intro hp; clear hk a; intro a hk) | (first | refine st_box hk hS ?_ | refine st_alloc hk hS ?_); clear hk hS a; intro w b hS a hk | (first | refine st_store hk hS ?_ | refine st_stI hk hS ?_ | refine st_stB hk hS ?_ | refine st_stS hk hS ?_); clear hk hS a; intro w hS a hk | (first | refine st_bs1I hk hS ?_ | refine st_bs1S hk hS ?_ | refine st_app1 hk hS ?_ | refine st_appE hk hS ?_); clear hk hS a; intro w v hS a hk | fail) | refine wp_seq ?_ | refine wp_block ?_ | refine wp_region_lit ?_ | refine q_then ?_ | refine q_thenE ?_ | refine q_thenR ?_ | refine q_inN ?_ | refine q_inR ?_ | refine q_inE ?_ | refine q_inO ?_ | refine wp_skip ?_ | refine wp_ret ?_ | refine wp_exit ?_ | (refine s_end hk ?_; clear hk a; intro a hk) | refine c_true hk ?_ | refine c_false hk ?_ | fail))
      refine sg hk (g_partT (j := i) hk ?_ (ht := eT rfl) (hs := (by first | exact St.rdT hS (by assumption) | exact OwT.rd (hS.rd (A := OwT _ _ _) (by (repeat (first | exact At.here | apply At.there)))) | assumption)) (hE := zT rfl) (hj := by omega)); clear hk a; intro vp hvp a hk
      have hvp0 := hvp _ hv
      clear hvp
      have hpl : (keys.take i).length = i := by rw [List.length_take]; omega
      (repeat' (first | (show wpList _ _ _ (_ :: _) _ _; first | (refine st hk ?_; clear hk a; intro a hk) | (refine st_skip hk ?_; clear hk a; intro a hk) | (refine s_skip0 hk ?_; clear hk a; intro a hk) | (first | refine st_lss hk ?_ ?_ | refine st_leq hk ?_ ?_ | refine st_gtr hk ?_ ?_ | refine st_geq hk ?_ ?_ | refine st_eqi hk ?_ ?_ | refine st_nei hk ?_ ?_ | refine st_eqS hk ?_ ?_ | refine st_neS hk ?_ ?_ | refine st_eqs hk ?_ ?_ | refine st_nes hk ?_ ?_) <;> (intro hp; clear hk a; intro a hk) | (first | refine st_box hk hS ?_ | refine st_alloc hk hS ?_); clear hk hS a; intro w b hS a hk | (first | refine st_store hk hS ?_ | refine st_stI hk hS ?_ | refine st_stB hk hS ?_ | refine st_stS hk hS ?_); clear hk hS a; intro w hS a hk | (first | refine st_bs1I hk hS ?_ | refine st_bs1S hk hS ?_ | refine st_app1 hk hS ?_ | refine st_appE hk hS ?_); clear hk hS a; intro w v hS a hk | fail) | refine wp_seq ?_ | refine wp_block ?_ | refine wp_region_lit ?_ | refine q_then ?_ | refine q_thenE ?_ | refine q_thenR ?_ | refine q_inN ?_ | refine q_inR ?_ | refine q_inE ?_ | refine q_inO ?_ | refine wp_skip ?_ | refine wp_ret ?_ | refine wp_exit ?_ | (refine s_end hk ?_; clear hk a; intro a hk) | refine c_true hk ?_ | refine c_false hk ?_ | fail))
      replace hk := Kn.kp [0, 1, 5, 7, 8, 16, 17, 18, 55, 56, 57] hk
      rw [hpl] at hk
      refine wp_for i (fun m _ => [(8, .int .i64 (if inK (keys.take m) key = true then -1 else rndF old key 2)), (57, .int .i64 (m : Int))]) (fun _ _ => [OwT 3 (takeN old keys i) vt]) (fun _ _ => True) () hk (by repeat (first | exact trivial | refine ⟨rfl, ?_⟩)) hS.sb trivial ?_
      clear hk hS a
      rintro m _ a w hm hk hS -
      by_cases hmi : m < i
      · obtain ⟨k', hx⟩ : ∃ x, keys[m]? = some x := ⟨_, List.getElem?_eq_getElem (by omega)⟩
        have hx' : (keys.take i)[m]? = some k' := by rw [List.getElem?_take, if_pos hmi]; exact hx
        have hs := inK_snoc hx key
        (repeat' (first | (show wpList _ _ _ (_ :: _) _ _; first | (refine st hk ?_; clear hk a; intro a hk) | (refine st_skip hk ?_; clear hk a; intro a hk) | (refine s_skip0 hk ?_; clear hk a; intro a hk) | (first | refine st_lss hk ?_ ?_ | refine st_leq hk ?_ ?_ | refine st_gtr hk ?_ ?_ | refine st_geq hk ?_ ?_ | refine st_eqi hk ?_ ?_ | refine st_nei hk ?_ ?_ | refine st_eqS hk ?_ ?_ | refine st_neS hk ?_ ?_ | refine st_eqs hk ?_ ?_ | refine st_nes hk ?_ ?_) <;> (intro hp; clear hk a; intro a hk) | (first | refine st_box hk hS ?_ | refine st_alloc hk hS ?_); clear hk hS a; intro w b hS a hk | (first | refine st_store hk hS ?_ | refine st_stI hk hS ?_ | refine st_stB hk hS ?_ | refine st_stS hk hS ?_); clear hk hS a; intro w hS a hk | (first | refine st_bs1I hk hS ?_ | refine st_bs1S hk hS ?_ | refine st_app1 hk hS ?_ | refine st_appE hk hS ?_); clear hk hS a; intro w v hS a hk | fail) | refine wp_seq ?_ | refine wp_block ?_ | refine wp_region_lit ?_ | refine q_then ?_ | refine q_thenE ?_ | refine q_thenR ?_ | refine q_inN ?_ | refine q_inR ?_ | refine q_inE ?_ | refine q_inO ?_ | refine wp_skip ?_ | refine wp_ret ?_ | refine wp_exit ?_ | (refine s_end hk ?_; clear hk a; intro a hk) | refine c_true hk ?_ | refine c_false hk ?_ | fail))
        · have e : k' = key := by assumption
          have e2 : (if inK (keys.take (m + 1)) key = true then (-1 : Int) else rndF old key 2) = -1 := by rw [hs, e]; simp
          refine ⟨hmi, (), ?_, hS, trivial⟩
          simp only [e2]
          exact hk.sd
        · have e : ¬ k' = key := by assumption
          have e2 : (if inK (keys.take (m + 1)) key = true then (-1 : Int) else rndF old key 2) = if inK (keys.take m) key = true then -1 else rndF old key 2 := by rw [hs, decide_eq_false e, Bool.or_false]
          refine ⟨hmi, (), ?_, hS, trivial⟩
          simp only [e2]
          exact hk.sd
      · have : m = i := by omega
        subst this
        rw [← atF_rnd hgk] at hk
        (repeat' (first | (show wpList _ _ _ (_ :: _) _ _; first | (refine st hk ?_; clear hk a; intro a hk) | (refine st_skip hk ?_; clear hk a; intro a hk) | (refine s_skip0 hk ?_; clear hk a; intro a hk) | (first | refine st_lss hk ?_ ?_ | refine st_leq hk ?_ ?_ | refine st_gtr hk ?_ ?_ | refine st_geq hk ?_ ?_ | refine st_eqi hk ?_ ?_ | refine st_nei hk ?_ ?_ | refine st_eqS hk ?_ ?_ | refine st_neS hk ?_ ?_ | refine st_eqs hk ?_ ?_ | refine st_nes hk ?_ ?_) <;> (intro hp; clear hk a; intro a hk) | (first | refine st_box hk hS ?_ | refine st_alloc hk hS ?_); clear hk hS a; intro w b hS a hk | (first | refine st_store hk hS ?_ | refine st_stI hk hS ?_ | refine st_stB hk hS ?_ | refine st_stS hk hS ?_); clear hk hS a; intro w hS a hk | (first | refine st_bs1I hk hS ?_ | refine st_bs1S hk hS ?_ | refine st_app1 hk hS ?_ | refine st_appE hk hS ?_); clear hk hS a; intro w v hS a hk | fail) | refine wp_seq ?_ | refine wp_block ?_ | refine wp_region_lit ?_ | refine q_then ?_ | refine q_thenE ?_ | refine q_thenR ?_ | refine q_inN ?_ | refine q_inR ?_ | refine q_inE ?_ | refine q_inO ?_ | refine wp_skip ?_ | refine wp_ret ?_ | refine wp_exit ?_ | (refine s_end hk ?_; clear hk a; intro a hk) | refine c_true hk ?_ | refine c_false hk ?_ | fail))
        rw [← takeN_succ] at hS
        exact ⟨hil, _, hk.sd, hS, trivial⟩
  · have : i = keys.length := by omega
    subst this
    exact done1 hk (h := hS)

theorem leave_any (old : List Kid) (keys : List ByteArray) (hl : old.length ≤ 1000) (hn : keys.length ≤ 1000) (vo vk : Value) (w0 : World) (ho : SlT old vo w0) (hv : SlT keys vk w0) :
    Calls Try.prog 19 #[vo, vk] w0 (Ret fun v w => St w0 [OwT 3 (leaveN old keys old.length) v] w) := by
  refine enter Try.func19 rfl Try.ntmps19 rfl (fun a hk => ?_); have hS := St.refl w0
  (repeat' (first | (show wpList _ _ _ (_ :: _) _ _; first | (refine st hk ?_; clear hk a; intro a hk) | (refine st_skip hk ?_; clear hk a; intro a hk) | (refine s_skip0 hk ?_; clear hk a; intro a hk) | (first | refine st_lss hk ?_ ?_ | refine st_leq hk ?_ ?_ | refine st_gtr hk ?_ ?_ | refine st_geq hk ?_ ?_ | refine st_eqi hk ?_ ?_ | refine st_nei hk ?_ ?_ | refine st_eqS hk ?_ ?_ | refine st_neS hk ?_ ?_ | refine st_eqs hk ?_ ?_ | refine st_nes hk ?_ ?_) <;> (intro hp; clear hk a; intro a hk) | (first | refine st_box hk hS ?_ | refine st_alloc hk hS ?_); clear hk hS a; intro w b hS a hk | (first | refine st_store hk hS ?_ | refine st_stI hk hS ?_ | refine st_stB hk hS ?_ | refine st_stS hk hS ?_); clear hk hS a; intro w hS a hk | (first | refine st_bs1I hk hS ?_ | refine st_bs1S hk hS ?_ | refine st_app1 hk hS ?_ | refine st_appE hk hS ?_); clear hk hS a; intro w v hS a hk | fail) | refine wp_seq ?_ | refine wp_block ?_ | refine wp_region_lit ?_ | refine q_then ?_ | refine q_thenE ?_ | refine q_thenR ?_ | refine q_inN ?_ | refine q_inR ?_ | refine q_inE ?_ | refine q_inO ?_ | refine wp_skip ?_ | refine wp_ret ?_ | refine wp_exit ?_ | (refine s_end hk ?_; clear hk a; intro a hk) | refine c_true hk ?_ | refine c_false hk ?_ | fail))
  refine sg hk (g_bs0 Int hS ?_ (hT := eT rfl) (hE := zT rfl)); clear hk hS a; intro w v hS a hk
  (repeat' (first | (show wpList _ _ _ (_ :: _) _ _; first | (refine st hk ?_; clear hk a; intro a hk) | (refine st_skip hk ?_; clear hk a; intro a hk) | (refine s_skip0 hk ?_; clear hk a; intro a hk) | (first | refine st_lss hk ?_ ?_ | refine st_leq hk ?_ ?_ | refine st_gtr hk ?_ ?_ | refine st_geq hk ?_ ?_ | refine st_eqi hk ?_ ?_ | refine st_nei hk ?_ ?_ | refine st_eqS hk ?_ ?_ | refine st_neS hk ?_ ?_ | refine st_eqs hk ?_ ?_ | refine st_nes hk ?_ ?_) <;> (intro hp; clear hk a; intro a hk) | (first | refine st_box hk hS ?_ | refine st_alloc hk hS ?_); clear hk hS a; intro w b hS a hk | (first | refine st_store hk hS ?_ | refine st_stI hk hS ?_ | refine st_stB hk hS ?_ | refine st_stS hk hS ?_); clear hk hS a; intro w hS a hk | (first | refine st_bs1I hk hS ?_ | refine st_bs1S hk hS ?_ | refine st_app1 hk hS ?_ | refine st_appE hk hS ?_); clear hk hS a; intro w v hS a hk | fail) | refine wp_seq ?_ | refine wp_block ?_ | refine wp_region_lit ?_ | refine q_then ?_ | refine q_thenE ?_ | refine q_thenR ?_ | refine q_inN ?_ | refine q_inR ?_ | refine q_inE ?_ | refine q_inO ?_ | refine wp_skip ?_ | refine wp_ret ?_ | refine wp_exit ?_ | (refine s_end hk ?_; clear hk a; intro a hk) | refine c_true hk ?_ | refine c_false hk ?_ | fail))
  replace hk := Kn.kp [0, 1, 5, 9, 10, 11] hk
  refine wp_for old.length (fun i v => [(5, v), (11, .int .i64 (i : Int))]) (fun i v => [OwT 3 (leaveN old keys i) v]) (fun _ _ => True) v hk (by repeat (first | exact trivial | refine ⟨rfl, ?_⟩)) hS trivial ?_
  clear hk hS a
  rintro i vt a w hi hk hS -
  have hll := leaveN_len old keys i
  have htl := takeN_len old keys keys.length
  by_cases hil : i < old.length
  · obtain ⟨⟨k', gh⟩, hx⟩ : ∃ x, old[i]? = some x := ⟨_, List.getElem?_eq_getElem hil⟩
    have hs := leaveN_succ hx keys
    cases gh with
    | true =>
      (repeat' (first | (show wpList _ _ _ (_ :: _) _ _; first | (refine st hk ?_; clear hk a; intro a hk) | (refine st_skip hk ?_; clear hk a; intro a hk) | (refine s_skip0 hk ?_; clear hk a; intro a hk) | (first | refine st_lss hk ?_ ?_ | refine st_leq hk ?_ ?_ | refine st_gtr hk ?_ ?_ | refine st_geq hk ?_ ?_ | refine st_eqi hk ?_ ?_ | refine st_nei hk ?_ ?_ | refine st_eqS hk ?_ ?_ | refine st_neS hk ?_ ?_ | refine st_eqs hk ?_ ?_ | refine st_nes hk ?_ ?_) <;> (intro hp; clear hk a; intro a hk) | (first | refine st_box hk hS ?_ | refine st_alloc hk hS ?_); clear hk hS a; intro w b hS a hk | (first | refine st_store hk hS ?_ | refine st_stI hk hS ?_ | refine st_stB hk hS ?_ | refine st_stS hk hS ?_); clear hk hS a; intro w hS a hk | (first | refine st_bs1I hk hS ?_ | refine st_bs1S hk hS ?_ | refine st_app1 hk hS ?_ | refine st_appE hk hS ?_); clear hk hS a; intro w v hS a hk | fail) | refine wp_seq ?_ | refine wp_block ?_ | refine wp_region_lit ?_ | refine q_then ?_ | refine q_thenE ?_ | refine q_thenR ?_ | refine q_inN ?_ | refine q_inR ?_ | refine q_inE ?_ | refine q_inO ?_ | refine wp_skip ?_ | refine wp_ret ?_ | refine wp_exit ?_ | (refine s_end hk ?_; clear hk a; intro a hk) | refine c_true hk ?_ | refine c_false hk ?_ | fail))
      rw [show leaveN old keys (i + 1) = leaveN old keys i by rw [hs]; rfl]
      exact ⟨hil, _, hk.sd, hS.sb, trivial⟩
    | false =>
      (repeat' (first | (show wpList _ _ _ (_ :: _) _ _; first | (refine st hk ?_; clear hk a; intro a hk) | (refine st_skip hk ?_; clear hk a; intro a hk) | (refine s_skip0 hk ?_; clear hk a; intro a hk) | (first | refine st_lss hk ?_ ?_ | refine st_leq hk ?_ ?_ | refine st_gtr hk ?_ ?_ | refine st_geq hk ?_ ?_ | refine st_eqi hk ?_ ?_ | refine st_nei hk ?_ ?_ | refine st_eqS hk ?_ ?_ | refine st_neS hk ?_ ?_ | refine st_eqs hk ?_ ?_ | refine st_nes hk ?_ ?_) <;> (intro hp; clear hk a; intro a hk) | (first | refine st_box hk hS ?_ | refine st_alloc hk hS ?_); clear hk hS a; intro w b hS a hk | (first | refine st_store hk hS ?_ | refine st_stI hk hS ?_ | refine st_stB hk hS ?_ | refine st_stS hk hS ?_); clear hk hS a; intro w hS a hk | (first | refine st_bs1I hk hS ?_ | refine st_bs1S hk hS ?_ | refine st_app1 hk hS ?_ | refine st_appE hk hS ?_); clear hk hS a; intro w v hS a hk | fail) | refine wp_seq ?_ | refine wp_block ?_ | refine wp_region_lit ?_ | refine q_then ?_ | refine q_thenE ?_ | refine q_thenR ?_ | refine q_inN ?_ | refine q_inR ?_ | refine q_inE ?_ | refine q_inO ?_ | refine wp_skip ?_ | refine wp_ret ?_ | refine wp_exit ?_ | (refine s_end hk ?_; clear hk a; intro a hk) | refine c_true hk ?_ | refine c_false hk ?_ | fail))
      refine sg hk (g_callO hk (hf := by kernel_rfl) (hc := take_any old keys hl hn vo vk _ (hS.rdT ho) (hS.rdT hv)) (h := ?_)); clear hk a; rintro v1 w hS1 a hk; replace hS := hS.call hS1; clear hS1
      (repeat' (first | (show wpList _ _ _ (_ :: _) _ _; first | (refine st hk ?_; clear hk a; intro a hk) | (refine st_skip hk ?_; clear hk a; intro a hk) | (refine s_skip0 hk ?_; clear hk a; intro a hk) | (first | refine st_lss hk ?_ ?_ | refine st_leq hk ?_ ?_ | refine st_gtr hk ?_ ?_ | refine st_geq hk ?_ ?_ | refine st_eqi hk ?_ ?_ | refine st_nei hk ?_ ?_ | refine st_eqS hk ?_ ?_ | refine st_neS hk ?_ ?_ | refine st_eqs hk ?_ ?_ | refine st_nes hk ?_ ?_) <;> (intro hp; clear hk a; intro a hk) | (first | refine st_box hk hS ?_ | refine st_alloc hk hS ?_); clear hk hS a; intro w b hS a hk | (first | refine st_store hk hS ?_ | refine st_stI hk hS ?_ | refine st_stB hk hS ?_ | refine st_stS hk hS ?_); clear hk hS a; intro w hS a hk | (first | refine st_bs1I hk hS ?_ | refine st_bs1S hk hS ?_ | refine st_app1 hk hS ?_ | refine st_appE hk hS ?_); clear hk hS a; intro w v hS a hk | fail) | refine wp_seq ?_ | refine wp_block ?_ | refine wp_region_lit ?_ | refine q_then ?_ | refine q_thenE ?_ | refine q_thenR ?_ | refine q_inN ?_ | refine q_inR ?_ | refine q_inE ?_ | refine q_inO ?_ | refine wp_skip ?_ | refine wp_ret ?_ | refine wp_exit ?_ | (refine s_end hk ?_; clear hk a; intro a hk) | refine c_true hk ?_ | refine c_false hk ?_ | fail))
      refine sg hk (g_callO hk (hf := by kernel_rfl) (hc := in25_any (takeN old keys keys.length) (i : Int) v1 _ (by first | exact St.rdT hS (by assumption) | exact OwT.rd (hS.rd (A := OwT _ _ _) (by (repeat (first | exact At.here | apply At.there)))) | assumption) (by omega)) (h := ?_)); clear hk a; rintro _ w ⟨rfl, hS1⟩ a hk; replace hS := hS.call0 hS1; clear hS1
      by_cases hm : (i : Int) ∈ takeN old keys keys.length
      · rw [decide_eq_true hm] at hk
        (repeat' (first | (show wpList _ _ _ (_ :: _) _ _; first | (refine st hk ?_; clear hk a; intro a hk) | (refine st_skip hk ?_; clear hk a; intro a hk) | (refine s_skip0 hk ?_; clear hk a; intro a hk) | (first | refine st_lss hk ?_ ?_ | refine st_leq hk ?_ ?_ | refine st_gtr hk ?_ ?_ | refine st_geq hk ?_ ?_ | refine st_eqi hk ?_ ?_ | refine st_nei hk ?_ ?_ | refine st_eqS hk ?_ ?_ | refine st_neS hk ?_ ?_ | refine st_eqs hk ?_ ?_ | refine st_nes hk ?_ ?_) <;> (intro hp; clear hk a; intro a hk) | (first | refine st_box hk hS ?_ | refine st_alloc hk hS ?_); clear hk hS a; intro w b hS a hk | (first | refine st_store hk hS ?_ | refine st_stI hk hS ?_ | refine st_stB hk hS ?_ | refine st_stS hk hS ?_); clear hk hS a; intro w hS a hk | (first | refine st_bs1I hk hS ?_ | refine st_bs1S hk hS ?_ | refine st_app1 hk hS ?_ | refine st_appE hk hS ?_); clear hk hS a; intro w v hS a hk | fail) | refine wp_seq ?_ | refine wp_block ?_ | refine wp_region_lit ?_ | refine q_then ?_ | refine q_thenE ?_ | refine q_thenR ?_ | refine q_inN ?_ | refine q_inR ?_ | refine q_inE ?_ | refine q_inO ?_ | refine wp_skip ?_ | refine wp_ret ?_ | refine wp_exit ?_ | (refine s_end hk ?_; clear hk a; intro a hk) | refine c_true hk ?_ | refine c_false hk ?_ | fail))
        rw [show leaveN old keys (i + 1) = leaveN old keys i by rw [hs, decide_eq_true hm]; rfl]
        exact ⟨hil, _, hk.sd, hS.sb, trivial⟩
      · rw [decide_eq_false hm] at hk
        (repeat' (first | (show wpList _ _ _ (_ :: _) _ _; first | (refine st hk ?_; clear hk a; intro a hk) | (refine st_skip hk ?_; clear hk a; intro a hk) | (refine s_skip0 hk ?_; clear hk a; intro a hk) | (first | refine st_lss hk ?_ ?_ | refine st_leq hk ?_ ?_ | refine st_gtr hk ?_ ?_ | refine st_geq hk ?_ ?_ | refine st_eqi hk ?_ ?_ | refine st_nei hk ?_ ?_ | refine st_eqS hk ?_ ?_ | refine st_neS hk ?_ ?_ | refine st_eqs hk ?_ ?_ | refine st_nes hk ?_ ?_) <;> (intro hp; clear hk a; intro a hk) | (first | refine st_box hk hS ?_ | refine st_alloc hk hS ?_); clear hk hS a; intro w b hS a hk | (first | refine st_store hk hS ?_ | refine st_stI hk hS ?_ | refine st_stB hk hS ?_ | refine st_stS hk hS ?_); clear hk hS a; intro w hS a hk | (first | refine st_bs1I hk hS ?_ | refine st_bs1S hk hS ?_ | refine st_app1 hk hS ?_ | refine st_appE hk hS ?_); clear hk hS a; intro w v hS a hk | fail) | refine wp_seq ?_ | refine wp_block ?_ | refine wp_region_lit ?_ | refine q_then ?_ | refine q_thenE ?_ | refine q_thenR ?_ | refine q_inN ?_ | refine q_inR ?_ | refine q_inE ?_ | refine q_inO ?_ | refine wp_skip ?_ | refine wp_ret ?_ | refine wp_exit ?_ | (refine s_end hk ?_; clear hk a; intro a hk) | refine c_true hk ?_ | refine c_false hk ?_ | fail))
        rw [show leaveN old keys (i + 1) = leaveN old keys i ++ [(i : Int)] by rw [hs, decide_eq_false hm]; rfl]
        exact ⟨hil, _, hk.sd, hS.sb, trivial⟩
  · have : i = old.length := by omega
    subst this
    (repeat' (first | (show wpList _ _ _ (_ :: _) _ _; first | (refine st hk ?_; clear hk a; intro a hk) | (refine st_skip hk ?_; clear hk a; intro a hk) | (refine s_skip0 hk ?_; clear hk a; intro a hk) | (first | refine st_lss hk ?_ ?_ | refine st_leq hk ?_ ?_ | refine st_gtr hk ?_ ?_ | refine st_geq hk ?_ ?_ | refine st_eqi hk ?_ ?_ | refine st_nei hk ?_ ?_ | refine st_eqS hk ?_ ?_ | refine st_neS hk ?_ ?_ | refine st_eqs hk ?_ ?_ | refine st_nes hk ?_ ?_) <;> (intro hp; clear hk a; intro a hk) | (first | refine st_box hk hS ?_ | refine st_alloc hk hS ?_); clear hk hS a; intro w b hS a hk | (first | refine st_store hk hS ?_ | refine st_stI hk hS ?_ | refine st_stB hk hS ?_ | refine st_stS hk hS ?_); clear hk hS a; intro w hS a hk | (first | refine st_bs1I hk hS ?_ | refine st_bs1S hk hS ?_ | refine st_app1 hk hS ?_ | refine st_appE hk hS ?_); clear hk hS a; intro w v hS a hk | fail) | refine wp_seq ?_ | refine wp_block ?_ | refine wp_region_lit ?_ | refine q_then ?_ | refine q_thenE ?_ | refine q_thenR ?_ | refine q_inN ?_ | refine q_inR ?_ | refine q_inE ?_ | refine q_inO ?_ | refine wp_skip ?_ | refine wp_ret ?_ | refine wp_exit ?_ | (refine s_end hk ?_; clear hk a; intro a hk) | refine c_true hk ?_ | refine c_false hk ?_ | fail))
    exact done1 hk (h := hS)
end Go.Proofs.Ytlcfdlcmeinhiaa

/- slices.Reverse at lists of numbers, off the library's contract. -/
import Derived.Test.YtlcfdlcmeinhiaaL17
import Derived.Test.YtlcfdlcmeinhiaaTy2
import Derived.Shelf.Slices.Cells
namespace Go.Proofs.Ytlcfdlcmeinhiaa
open Go.RowKit Go.Shelf

def rhoRev : Ren := { f := fun _ => 53, t := fun x => if x = 3 then 3 else if x = 4 then 4 else if x = 28 then 31 else 0, g := fun x => x }
theorem laysRev : Lays.n112 Try.prog rhoRev where
  mixed := mixed
  f112 := by kernel_rfl
  t0 := by kernel_rfl
  a0 := fun w => aggOf_run (aT rfl) w
  z0 := fun w => szOf_run (zT rfl) w
  v0 := fun w => zeroOf_run (oT rfl) w
  t3 := by kernel_rfl
  a3 := fun w => aggOf_run (aT rfl) w
  z3 := fun w => szOf_run (zT rfl) w
  v3 := fun w => zeroOf_run (oT rfl) w
  t4 := by kernel_rfl
  a4 := fun w => aggOf_run (aT rfl) w
  z4 := fun w => szOf_run (zT rfl) w
  v4 := fun w => zeroOf_run (oT rfl) w
  t28 := by kernel_rfl
  a28 := fun w => aggOf_run (aT rfl) w
  z28 := fun w => szOf_run (zT rfl) w
  v28 := fun w => zeroOf_run (oT rfl) w

/-- A list of one's own comes to be the other way round. -/
theorem rev_any {w0 w : World} {L L' : List HP} {E : TypeId} {xs : List Int} {v : Value} (hS : St w0 L w) (hat : At (OwT E xs v) L L') (h0 : xs ≠ []) (hl : xs.length ≤ 9223372036854775807) :
    Calls Try.prog 53 #[v] w (Ret fun _ w' => St w0 (OwT E xs.reverse v :: L') w') := by
  obtain ⟨b, off, cap, rfl, hc, hf⟩ := hS.ownCells hat h0
  refine (Any.slices_Reverse_int_cells laysRev b off xs.length cap xs w (Nat.le_refl _) hl (fun j hj => hc j _ ?_) (fun j _ => hf _)).mono ?_
  · rw [enc_ints, List.getElem?_map, List.getElem?_eq_getElem hj]
    simp [List.getD_eq_getElem?_getD, List.getElem?_eq_getElem hj]
  · rintro e w' ⟨he, q, rfl⟩
    refine ⟨_, he, ?_⟩
    have h1 := (hS.drewN q).ownSet (ys := xs.reverse) hat rfl (by simp)
    have : enc xs.reverse = (xs.take xs.length).reverse.map (Value.int .i64) := by rw [enc_ints]; simp
    rw [← this]
    exact h1
end Go.Proofs.Ytlcfdlcmeinhiaa

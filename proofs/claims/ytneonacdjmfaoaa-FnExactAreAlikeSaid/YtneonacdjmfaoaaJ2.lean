/- Contracts of the program's numbers of classes and their count; the monoid has at most 300 elements. -/
import Derived.Test.YtneonacdjmfaoaaJ1
namespace Go.Proofs.Ytneonacdjmfaoaa
open Go.RowKit
set_option maxRecDepth 100000
set_option linter.unusedSimpArgs false
set_option linter.unusedVariables false

theorem cls1_any {d b1 b2 i k : Nat} {n kind : Int} {E : List M} (w : World) (hI : IdeAt w d E) (hE : E.length ≤ 300) (hm : Mnd n E) (hi : i < E.length) (hk : k < E.length)
    (C1 : w.cell? ⟨b1, 0, none⟩ = some (.pointer (some ⟨d, 0, none⟩))) (C2 : w.cell? ⟨b2, 0, none⟩ = some (I kind)) :
    Calls Try.prog 97 #[I i, I k, .pointer (some ⟨b1, 0, none⟩), .pointer (some ⟨b2, 0, none⟩)] w fun e w' => e = .returned (.bool (sameK E kind i k)) ∧ Below w.heap.size w w' := by
  have HI := Lib.hid hI
  have Hm := Lib.hid hm
  clear hI hm
  go_enter Try.func97, Try.ntmps97
  go_wp2_with fail
  refine (alike_any w HI.out hE Hm.out hi hk).mono ?_
  rintro e w1 ⟨rfl, hb1⟩
  go_wp2
  go_ret
  exact ⟨rfl, hb1⟩

def RetC (zs : List Int) (w : World) (e : Ending) (w' : World) : Prop := ∃ v, e = .returned v ∧ OwI 2 w' w.heap.size v zs ∧ Below w.heap.size w w'
theorem classes_any {d : Nat} {n kind : Int} {E : List M} (w : World) (hI : IdeAt w d E) (hE : E.length ≤ 300) (hm : Mnd n E) :
    Calls Try.prog 62 #[.pointer (some ⟨d, 0, none⟩), I kind] w (RetC (clsK E kind) w) := by
  obtain ⟨wb, hwb⟩ : ∃ wb, wb = (w.alloc (.cells #[.pointer (some ⟨d, 0, none⟩)] 77)).alloc (.cells #[I kind] 2) := ⟨_, rfl⟩
  have hbb : Below w.heap.size w wb := by rw [hwb]; exact ((Below.refl _ _).alloc (Nat.le_refl _) _).alloc (by simp) _
  have c1 : wb.cell? ⟨w.heap.size, 0, none⟩ = some (.pointer (some ⟨d, 0, none⟩)) := by rw [hwb]; exact (Blk.alloc (Blk.new w _ _) _).cell 0
  have c2 : wb.cell? ⟨w.heap.size + 1, 0, none⟩ = some (I kind) := by rw [hwb]; exact (Blk.new' _ _ _ (by simp)).cell 0
  have l1 := World.block_lt_of_cell? wb ⟨w.heap.size, 0, none⟩ c1
  have l2 := World.block_lt_of_cell? wb ⟨w.heap.size + 1, 0, none⟩ c2
  have hIb := hI.below hbb (Nat.le_refl _)
  have HP : Hid (PredC2 97 #[.pointer (some ⟨w.heap.size, 0, none⟩), .pointer (some ⟨w.heap.size + 1, 0, none⟩)] E.length (sameK E kind) wb) :=
    ⟨enters_of Try.func97 (by kernel_rfl) rfl, fun w' hb' i k hi hk => cls1_any w' (hIb.below hb' (Nat.le_refl _)) hE hm hi hk ((hb'.cell l1).trans c1) ((hb'.cell l2).trans c2)⟩
  obtain ⟨gl, gr, gb, hJ⟩ := hI
  have s2 := hJ.c2
  have ld := World.block_lt_of_cell? w ⟨d, 2, none⟩ s2
  have Hbb := Lib.hid hbb
  have Hwb := Lib.hid hwb
  clear hIb hbb hwb hJ
  go_enter Try.func62, Try.ntmps62
  go_wp2_with fail
  rw [← Hwb.out]
  refine (numb_any _ _ _ _ wb HP.out hE).mono ?_
  rintro e w1 ⟨v, rfl, ho, hb1⟩
  have Ho := Lib.hid (ho.mono Hbb.out.size)
  have Hb := Lib.hid (Hbb.out.trans (hb1.mono Hbb.out.size))
  obtain ⟨Av, cv, hv, _⟩ := ho.form
  clear hb1 ho
  subst hv
  go_wp2
  go_ret
  exact ⟨_, rfl, Ho.out, Hb.out⟩
end Go.Proofs.Ytneonacdjmfaoaa

/- Contracts of the functions that list the images of a map; no conditions beyond those that each theorem states. -/
import Derived.Test.YtkbfocoaobiijaaC2
import Derived.Test.YtkbfocoaobiijaaSl
import Derived.WalkSpells
namespace Go.Proofs.Ytkbfocoaobiijaa
open Go.RowKit
set_option maxRecDepth 100000

theorem rd_box {w : World} {g : Nat} {t : TypeId} {f : M} {B : Nat} (h : Blk w g t (mc f)) (hg : g < B) {n : Nat} (hn : n ≤ 5) : RdI w B (some ⟨g, 1, none⟩) (imgs f n) := by
  refine ⟨by simp [cI], fun _ => ⟨g, 1, rfl, hg, fun j u hu => ?_⟩⟩
  have hj : j < (imgs f n).length := by
    rcases Nat.lt_or_ge j (imgs f n).length with h | h
    · exact h
    · rw [List.getElem?_eq_none (by rw [cI_length]; exact h)] at hu; cases hu
  rw [cI_get hj] at hu
  injection hu with hu
  subst hu
  rw [imgs_length] at hj
  rw [h.at_ (by omega)]
  simp [gi, imgs, List.getD, hj]

theorem slc1 (g : Nat) (w : World) : (Instr.sliceAt 24 (.pointer (some ⟨g, 1, none⟩)) none (some (I 1)) none).run Try.prog w = .ok (.slice (some ⟨g, 1, none⟩) 1 5) w := by kernel_rfl

theorem slc2 (g : Nat) (w : World) : (Instr.sliceAt 24 (.pointer (some ⟨g, 1, none⟩)) none (some (I 2)) none).run Try.prog w = .ok (.slice (some ⟨g, 1, none⟩) 2 5) w := by kernel_rfl

theorem slc3 (g : Nat) (w : World) : (Instr.sliceAt 24 (.pointer (some ⟨g, 1, none⟩)) none (some (I 3)) none).run Try.prog w = .ok (.slice (some ⟨g, 1, none⟩) 3 5) w := by kernel_rfl

theorem slc4 (g : Nat) (w : World) : (Instr.sliceAt 24 (.pointer (some ⟨g, 1, none⟩)) none (some (I 4)) none).run Try.prog w = .ok (.slice (some ⟨g, 1, none⟩) 4 5) w := by kernel_rfl

theorem slc5 (g : Nat) (w : World) : (Instr.sliceAt 24 (.pointer (some ⟨g, 1, none⟩)) none (some (I 5)) none).run Try.prog w = .ok (.slice (some ⟨g, 1, none⟩) 5 5) w := by kernel_rfl

theorem slice5 (g : Nat) (p : Int) (h1 : 1 ≤ p) (h5 : p ≤ 5) : ∀ w, (Instr.sliceAt 24 (.pointer (some ⟨g, 1, none⟩)) none (some (I p)) none).run Try.prog w = .ok (.slice (some ⟨g, 1, none⟩) p.toNat 5) w := by
  intro w
  have h : p = 1 ∨ p = 2 ∨ p = 3 ∨ p = 4 ∨ p = 5 := by omega
  rcases h with rfl | rfl | rfl | rfl | rfl
  · exact slc1 g w
  · exact slc2 g w
  · exact slc3 g w
  · exact slc4 g w
  · exact slc5 g w

def imgsR (f : M) : List Int := if isMap f then imgs f f.p.toNat else []

theorem imgsR_len (f : M) : (imgsR f).length < 1073741824 := by
  unfold imgsR
  split
  · rename_i h
    have := ((isMap_iff f).1 h).p5
    rw [imgs_length]; omega
  · simp

end Go.Proofs.Ytkbfocoaobiijaa

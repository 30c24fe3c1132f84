/- How an argument that is a list of numbers reads; no conditions. -/
import Derived.Test.YtkbfocoaobiijaaOpen
import Derived.Test.YtkbfocoaobiijaaSl
import Derived.ChangeSlices
namespace Go.Proofs.Ytkbfocoaobiijaa
open Go.ChangeShapes Go.WideShapes Go.ChangeAt Go.RowKit
open Go.ChangeMaps (open_string shut_string)
set_option maxRecDepth 100000

section
variable {H : Type} {enc : TypeId × Value → H} {w : World} {base : Nat} {spare : Nat → Bool} {held : Bool}
theorem spot_of_cell {a : Addr} {u : Value} (h : w.cell? a = some u) : a.spot = none := by
  unfold World.cell? at h
  split at h
  · split at h
    · cases h
    · rename_i hs; simpa using hs
  · cases h
/-- an argument that is a list of numbers -/
theorem open_int64s {r : Reach} {b0 : Nat} {v : Value} {d : DataW H} {p : List MemPlace} (hv : Value.okWide Try.prog w r b0 34 v) (h : DataW.Trod enc Try.prog w base spare held 34 v d p) :
    ∃ (A : Option Addr) (n c : Nat) (zs : List Int), v = .slice A n c ∧ (zs.length = n ∧ RdI w w.heap.size A zs) := by
  obtain ⟨A, n, c, rfl⟩ := okWide_slice Try.underlying34 hv
  obtain ⟨fuel, hf⟩ := h
  rcases open_ints Try.underlying34 Try.underlying2 cellsTI hf with ⟨hcs, _⟩ | ⟨a, len, cap, zs, hcs, _, hl, _, hz, _, hc, _⟩
  · simp [Value.cells] at hcs
    obtain ⟨rfl, rfl, rfl⟩ := hcs
    exact ⟨none, 0, 0, [], rfl, rfl, Rd.nil_⟩
  · simp [Value.cells] at hcs
    obtain ⟨rfl, rfl, rfl⟩ := hcs
    have hle : n ≤ zs.length := by rw [hz]; split <;> omega
    have hlen : (zs.take n).length = n := by simp; omega
    refine ⟨some a, n, c, zs.take n, rfl, hlen, by simp [cI], fun h0 => ?_⟩
    rw [hlen] at h0
    have h1 := hc 0 (by omega)
    have e0 : a.add 0 = a := rfl
    rw [e0] at h1
    have hs := spot_of_cell h1
    refine ⟨a.block, a.off, by rw [← hs], World.block_lt_of_cell? w a h1, fun j u hu => ?_⟩
    have hj : j < (zs.take n).length := by
      rcases Nat.lt_or_ge j (zs.take n).length with h | h
      · exact h
      · rw [List.getElem?_eq_none (by rw [cI_length]; exact h)] at hu; cases hu
    rw [cI_get hj] at hu
    injection hu with hu
    subst hu
    rw [hlen] at hj
    have h2 := hc j (by omega)
    have e : a.add j = ⟨a.block, a.off + j, none⟩ := by
      unfold Addr.add
      split
      · rename_i h; subst h; rw [← hs]; rfl
      · rfl
    rw [e] at h2
    rw [h2]
    simp [gi, List.getD, hj]
end
end Go.Proofs.Ytkbfocoaobiijaa

/- Contracts of maps made of lists and of texts; no conditions beyond those that each theorem states. -/
import Derived.Test.YtkbfocoaobiijaaC1
import Derived.Test.YtkbfocoaobiijaaSl
import Derived.WalkSpells
namespace Go.Proofs.Ytkbfocoaobiijaa
open Go.RowKit
set_option maxRecDepth 100000

/-- the map of a list of images -/
def made (zs : List Int) : M := M.mk' zs.length (gi zs)
theorem made_p (zs : List Int) : (made zs).p = zs.length := rfl
theorem made_at {zs : List Int} {k : Nat} (hk : k < 5) : (made zs).at k = gi zs k := at_mk' _ _ hk
theorem gi_out {zs : List Int} {k : Nat} (h : zs.length ≤ k) : gi zs k = 0 := by simp [gi, List.getD, List.getElem?_eq_none h]
theorem made_fin {zs : List Int} : part (zs.length : Int) (gi zs) (fun _ => 0) zs.length = made zs := by
  refine mk'_congr fun j _ => ?_
  by_cases h : j < zs.length
  · rw [if_pos h]
  · rw [if_neg h, gi_out (by omega)]

theorem l01Made_any (A : Option Addr) (n c : Nat) (zs : List Int) (w : World) (hx : RdI w w.heap.size A zs) (hn : zs.length = n) (hb : n ≤ 5) :
    Calls Try.prog 55 #[.slice A n c] w fun e w' => e = .returned (.agg (mc (made zs))) ∧ Below w.heap.size w w' := by
  have Hn := Lib.hid hn
  have Hx := Lib.hid hx
  clear hn hx
  go_enter Try.func55, Try.ntmps55
  go_wp2
  go_loopw [4] (fun i wr => ∃ k : Nat, k ≤ n ∧ i = .int .i64 k ∧ Blk wr w.heap.size 26 (mc M0) ∧ Blk wr (w.heap.size+1) 26 (mc (part (n : Int) (gi zs) (fun _ => 0) k)) ∧ Below w.heap.size w wr)
    (fun i _ => 5 - (intOf i).toNat)
  case atStart =>
    refine ⟨0, by omega, rfl, ?_, ?_, by (repeat (first | with_reducible assumption | with_reducible exact Below.refl _ _ | with_reducible refine Below.setCell ?_ (by first | omega | (simp <;> omega)) _ | with_reducible refine Below.alloc ?_ (by first | omega | (simp <;> omega)) _ | with_reducible refine Below.drew ?_ | with_reducible refine Below.drewN ?_ _))⟩
    · exact (Blk.new w _ _).alloc _
    · rw [part_zero]; exact Blk.new' _ _ _ (by simp)
  case round =>
    obtain ⟨k, hk, rfl, hB1, hB2, hbel⟩ := hrel
    by_cases hlt : k < n
    · have hk5 : k < 5 := by omega
      obtain ⟨b, off, rfl, hbb, c1⟩ := RdI.at_ (Hx.out.below hbel) (k := k) (by rw [Hn.out]; exact hlt)
      have c3 := hB2.at_ hk5
      have z1 : wr.frozen? ⟨w.heap.size+1, 1 + k, none⟩ = false := hB2.frozen _
      go_wp2
      go_roundw
      case rel => exact ⟨k + 1, by omega, by go_num, hB1.far (by simp) _, (hB2.set_ _ _).cast (part_step _ _ _ hk5 rfl), by (repeat (first | with_reducible assumption | with_reducible exact Below.refl _ _ | with_reducible refine Below.setCell ?_ (by first | omega | (simp <;> omega)) _ | with_reducible refine Below.alloc ?_ (by first | omega | (simp <;> omega)) _ | with_reducible refine Below.drew ?_ | with_reducible refine Below.drewN ?_ _))⟩
      case measure => simp [intOf]; omega
    · have hfin : part (n : Int) (gi zs) (fun _ => 0) k = made zs := by
        obtain rfl : k = n := by omega
        rw [← Hn.out]; exact made_fin
      rw [hfin] at hB2
      clear hfin
      obtain ⟨d0, d1, d2, d3, d4, d5⟩ := hB2.six
      obtain ⟨e0, e1, e2, e3, e4, e5⟩ := hB1.six
      obtain ⟨z0, z1, z2, z3, z4, z5⟩ := hB1.fr6
      go_wp2
      refine bodyPost_ret (v := .agg (mc (made zs))) ?_ rfl ⟨rfl, by (repeat (first | with_reducible assumption | with_reducible exact Below.refl _ _ | with_reducible refine Below.setCell ?_ (by first | omega | (simp <;> omega)) _ | with_reducible refine Below.alloc ?_ (by first | omega | (simp <;> omega)) _ | with_reducible refine Below.drew ?_ | with_reducible refine Below.drewN ?_ _))⟩
      simp [results, Try.results55, go_sem, *]

/-- are all numbers of a list images of its length -/
def okList (zs : List Int) : Bool := zs.all fun z => inR z 0 (zs.length - 1)
theorem okList_iff (zs : List Int) : okList zs = true ↔ ∀ k, k < zs.length → inR (gi zs k) 0 (zs.length - 1) = true := by
  unfold okList
  rw [List.all_eq_true]
  constructor
  · intro h k hk; exact h _ (by rw [gi_eq hk]; exact List.getElem_mem hk)
  · intro h z hz
    obtain ⟨k, hk, e⟩ := List.getElem_of_mem hz
    have := h k hk
    rwa [gi_eq hk, e] at this
theorem isMap_made {zs : List Int} (h1 : 1 ≤ zs.length) (h5 : zs.length ≤ 5) : isMap (made zs) = okList zs := by
  rw [Bool.eq_iff_iff, isMap_iff, okList_iff]
  constructor
  · intro h k hk
    rw [inR_true]
    have a := h.lo k (by omega) (by rw [made_p]; omega)
    have b := h.hi k (by omega) (by rw [made_p]; omega)
    rw [made_at (by omega)] at a b
    rw [made_p] at b
    omega
  · intro h
    refine ⟨by rw [made_p]; omega, by rw [made_p]; omega, ?_, ?_, ?_⟩
    · intro k hk hp; rw [made_p] at hp; rw [made_at hk]; have := inR_true.1 (h k (by omega)); omega
    · intro k hk hp; rw [made_p] at hp ⊢; rw [made_at hk]; have := inR_true.1 (h k (by omega)); omega
    · intro k hk hp; rw [made_p] at hp; rw [made_at hk, gi_out (by omega)]

def mapOfOk (zs : List Int) : Bool := inR zs.length 1 5 && okList zs
def mapOfR (zs : List Int) : M := if mapOfOk zs then made zs else M0
def mapOfC (zs : List Int) : Int := if mapOfOk zs then 0 else 2

end Go.Proofs.Ytkbfocoaobiijaa

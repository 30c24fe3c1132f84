/- Contracts of maps made of lists and of texts; no conditions beyond those that each theorem states. -/
import Derived.Test.YtkbfocoaobiijaaGreatC1
import Derived.Test.YtkbfocoaobiijaaGreatSl
import Derived.WalkSpells
namespace Go.Proofs.YtkbfocoaobiijaaGreat
open Go.RowKit
set_option maxRecDepth 100000

/-- the map of a list of images -/
def made (zs : List Int) : M := M.mk' zs.length (gi zs)
theorem made_p (zs : List Int) : (made zs).p = zs.length := rfl
theorem made_at {zs : List Int} {k : Nat} (hk : k < 5) : (made zs).at k = gi zs k := at_mk' _ _ hk
theorem gi_out {zs : List Int} {k : Nat} (h : zs.length ≤ k) : gi zs k = 0 := by simp [gi, List.getD, List.getElem?_eq_none h]
theorem made_fin {zs : List Int} : part (zs.length : Int) (gi zs) (fun _ => 0) zs.length = made zs := by
  refine mk'_congr fun j _ => ?_
  by_cases h : j < zs.length
  · rw [if_pos h]
  · rw [if_neg h, gi_out (by omega)]

theorem l01Made_any (A : Option Addr) (n c : Nat) (zs : List Int) (w : World) (hx : RdI w w.heap.size A zs) (hn : zs.length = n) (hb : n ≤ 5) :
    Calls Tryz.prog 194 #[.slice A n c] w fun e w' => e = .returned (.agg (mc (made zs))) ∧ Below w.heap.size w w' := by
  have Hn := Lib.hid hn
  have Hx := Lib.hid hx
  clear hn hx
  go_enter Tryz.func194, Tryz.ntmps194
  go_wp2
  go_loopw [4] (fun i wr => ∃ k : Nat, k ≤ n ∧ i = .int .i64 k ∧ Blk wr w.heap.size 31 (mc M0) ∧ Blk wr (w.heap.size+1) 31 (mc (part (n : Int) (gi zs) (fun _ => 0) k)) ∧ Below w.heap.size w wr)
    (fun i _ => 5 - (intOf i).toNat)
  case atStart =>
    refine ⟨0, by omega, rfl, ?_, ?_, by (repeat (first | with_reducible assumption | with_reducible exact Below.refl _ _ | with_reducible refine Below.setCell ?_ (by first | omega | (simp <;> omega)) _ | with_reducible refine Below.alloc ?_ (by first | omega | (simp <;> omega)) _ | with_reducible refine Below.drew ?_ | with_reducible refine Below.drewN ?_ _))⟩
    · exact (Blk.new w _ _).alloc _
    · rw [part_zero]; exact Blk.new' _ _ _ (by simp)
  case round =>
    obtain ⟨k, hk, rfl, hB1, hB2, hbel⟩ := hrel
    by_cases hlt : k < n
    · have hk5 : k < 5 := by omega
      obtain ⟨b, off, rfl, hbb, c1⟩ := RdI.at_ (Hx.out.below hbel) (k := k) (by rw [Hn.out]; exact hlt)
      have c3 := hB2.at_ hk5
      have z1 : wr.frozen? ⟨w.heap.size+1, 1 + k, none⟩ = false := hB2.frozen _
      go_wp2
      go_roundw
      case rel => exact ⟨k + 1, by omega, by go_num, hB1.far (by simp) _, (hB2.set_ _ _).cast (part_step _ _ _ hk5 rfl), by (repeat (first | with_reducible assumption | with_reducible exact Below.refl _ _ | with_reducible refine Below.setCell ?_ (by first | omega | (simp <;> omega)) _ | with_reducible refine Below.alloc ?_ (by first | omega | (simp <;> omega)) _ | with_reducible refine Below.drew ?_ | with_reducible refine Below.drewN ?_ _))⟩
      case measure => simp [intOf]; omega
    · have hfin : part (n : Int) (gi zs) (fun _ => 0) k = made zs := by
        obtain rfl : k = n := by omega
        rw [← Hn.out]; exact made_fin
      rw [hfin] at hB2
      clear hfin
      obtain ⟨d0, d1, d2, d3, d4, d5⟩ := hB2.six
      obtain ⟨e0, e1, e2, e3, e4, e5⟩ := hB1.six
      obtain ⟨z0, z1, z2, z3, z4, z5⟩ := hB1.fr6
      go_wp2
      refine bodyPost_ret (v := .agg (mc (made zs))) ?_ rfl ⟨rfl, by (repeat (first | with_reducible assumption | with_reducible exact Below.refl _ _ | with_reducible refine Below.setCell ?_ (by first | omega | (simp <;> omega)) _ | with_reducible refine Below.alloc ?_ (by first | omega | (simp <;> omega)) _ | with_reducible refine Below.drew ?_ | with_reducible refine Below.drewN ?_ _))⟩
      simp [results, Tryz.results194, go_sem, *]

/-- are all numbers of a list images of its length -/
def okList (zs : List Int) : Bool := zs.all fun z => inR z 0 (zs.length - 1)
theorem okList_iff (zs : List Int) : okList zs = true ↔ ∀ k, k < zs.length → inR (gi zs k) 0 (zs.length - 1) = true := by
  unfold okList
  rw [List.all_eq_true]
  constructor
  · intro h k hk; exact h _ (by rw [gi_eq hk]; exact List.getElem_mem hk)
  · intro h z hz
    obtain ⟨k, hk, e⟩ := List.getElem_of_mem hz
    have := h k hk
    rwa [gi_eq hk, e] at this
theorem isMap_made {zs : List Int} (h1 : 1 ≤ zs.length) (h5 : zs.length ≤ 5) : isMap (made zs) = okList zs := by
  rw [Bool.eq_iff_iff, isMap_iff, okList_iff]
  constructor
  · intro h k hk
    rw [inR_true]
    have a := h.lo k (by omega) (by rw [made_p]; omega)
    have b := h.hi k (by omega) (by rw [made_p]; omega)
    rw [made_at (by omega)] at a b
    rw [made_p] at b
    omega
  · intro h
    refine ⟨by rw [made_p]; omega, by rw [made_p]; omega, ?_, ?_, ?_⟩
    · intro k hk hp; rw [made_p] at hp; rw [made_at hk]; have := inR_true.1 (h k (by omega)); omega
    · intro k hk hp; rw [made_p] at hp ⊢; rw [made_at hk]; have := inR_true.1 (h k (by omega)); omega
    · intro k hk hp; rw [made_p] at hp; rw [made_at hk, gi_out (by omega)]

def mapOfOk (zs : List Int) : Bool := inR zs.length 1 5 && okList zs
def mapOfR (zs : List Int) : M := if mapOfOk zs then made zs else M0
def mapOfC (zs : List Int) : Int := if mapOfOk zs then 0 else 2

theorem SpecMapOf_any (A : Option Addr) (n c : Nat) (zs : List Int) (w : World) (hx : RdI w w.heap.size A zs) (hn : zs.length = n) (hb : n < 1073741824) :
    Calls Tryz.prog 81 #[.slice A n c] w fun e w' => e = .returned (.tuple #[.agg (mc (mapOfR zs)), I (mapOfC zs)]) ∧ Below w.heap.size w w' := by
  have Hn := Lib.hid hn
  have Hx := Lib.hid hx
  clear hn hx
  cases hr : inR n 1 5
  · have Hr : Hid (mapOfR zs = M0 ∧ mapOfC zs = 2) := by
      have : mapOfOk zs = false := by unfold mapOfOk; rw [Hn.out, hr]; rfl
      exact ⟨by simp [mapOfR, this], by simp [mapOfC, this]⟩
    go_enter Tryz.func81, Tryz.ntmps81
    go_wp2_with (go_at_call 141; refine (l01In_any _ _ _ _).mono ?_; rintro e w' ⟨rfl, rfl⟩)
    refine bodyPost_ret (v := .tuple #[.agg (mc M0), I 2]) ?_ rfl ⟨by rw [Hr.out.1, Hr.out.2], by (repeat (first | with_reducible assumption | with_reducible exact Below.refl _ _ | with_reducible refine Below.setCell ?_ (by first | omega | (simp <;> omega)) _ | with_reducible refine Below.alloc ?_ (by first | omega | (simp <;> omega)) _ | with_reducible refine Below.drew ?_ | with_reducible refine Below.drewN ?_ _))⟩
    simp [results, Tryz.results81, go_sem, *]
    exact ⟨rfl, rfl, rfl, rfl, rfl, rfl⟩
  · have hr1 := (inR_true.1 hr).1
    have hr2 := (inR_true.1 hr).2
    have Hin := Lib.hid hr
    go_enter Tryz.func81, Tryz.ntmps81
    go_wp2_with (go_at_call 141; refine (l01In_any _ _ _ _).mono ?_; rintro e w' ⟨rfl, rfl⟩)
    clear hr
    go_loopw [5] (fun i wr => ∃ k : Nat, k ≤ n ∧ i = .int .i64 k ∧ Hid (∀ j, j < k → inR (gi zs j) 0 (n - 1) = true) ∧ Blk wr w.heap.size 31 (mc M0) ∧ Below w.heap.size w wr) (fun i _ => n - (intOf i).toNat)
    case atStart => exact ⟨0, by omega, rfl, fun j hj => absurd hj (by omega), Blk.new _ _ _, by (repeat (first | with_reducible assumption | with_reducible exact Below.refl _ _ | with_reducible refine Below.setCell ?_ (by first | omega | (simp <;> omega)) _ | with_reducible refine Below.alloc ?_ (by first | omega | (simp <;> omega)) _ | with_reducible refine Below.drew ?_ | with_reducible refine Below.drewN ?_ _))⟩
    case round =>
      obtain ⟨k, hk, rfl, hg, hB, hbel⟩ := hrel
      obtain ⟨e0, e1, e2, e3, e4, e5⟩ := hB.six
      obtain ⟨z0, z1, z2, z3, z4, z5⟩ := hB.fr6
      by_cases hlt : k < n
      · obtain ⟨b, off, rfl, hbb, c1⟩ := RdI.at_ (Hx.out.below hbel) (k := k) (by rw [Hn.out]; exact hlt)
        cases hin : inR (gi zs k) 0 (n - 1)
        · have Hr : Hid (mapOfR zs = M0 ∧ mapOfC zs = 2) := by
            have h1 : okList zs = false := by
              cases h : okList zs with
              | false => rfl
              | true => have := (okList_iff zs).1 h k (by have := Hn.out; omega); rw [Hn.out, hin] at this; cases this
            have : mapOfOk zs = false := by unfold mapOfOk; rw [h1]; simp
            exact ⟨by simp [mapOfR, this], by simp [mapOfC, this]⟩
          go_wp2_with (go_at_call 141; refine (l01In_any _ _ _ _).mono ?_; rintro e w' ⟨rfl, rfl⟩)
          refine bodyPost_ret (v := .tuple #[.agg (mc M0), I 2]) ?_ rfl ⟨by rw [Hr.out.1, Hr.out.2], by (repeat (first | with_reducible assumption | with_reducible exact Below.refl _ _ | with_reducible refine Below.setCell ?_ (by first | omega | (simp <;> omega)) _ | with_reducible refine Below.alloc ?_ (by first | omega | (simp <;> omega)) _ | with_reducible refine Below.drew ?_ | with_reducible refine Below.drewN ?_ _))⟩
          simp [results, Tryz.results81, go_sem, *]
          try exact ⟨rfl, rfl, rfl, rfl, rfl, rfl⟩
        · have Hs : Hid (∀ j, j < k + 1 → inR (gi zs j) 0 (n - 1) = true) := by
            intro j hj; by_cases e : j = k
            · subst e; exact hin
            · exact hg.out j (by omega)
          go_wp2_with (go_at_call 141; refine (l01In_any _ _ _ _).mono ?_; rintro e w' ⟨rfl, rfl⟩)
          go_roundw
          case rel => exact ⟨k + 1, by omega, by go_num, Hs.out, hB, hbel⟩
          case measure => simp [intOf]; omega
      · have Hr : Hid (mapOfR zs = made zs ∧ mapOfC zs = 0) := by
          have h1 : okList zs = true := (okList_iff zs).2 fun j hj => by have := hg.out j (by have := Hn.out; omega); rwa [← Hn.out] at this
          have : mapOfOk zs = true := by unfold mapOfOk; rw [h1, Hn.out, Hin.out]; rfl
          exact ⟨by simp [mapOfR, this], by simp [mapOfC, this]⟩
        go_wp2_with fail
        refine (l01Made_any A n c zs _ ((Hx.out.below hbel).more hbel.size) Hn.out (by omega)).mono ?_
        rintro e w1 ⟨rfl, hb1⟩
        replace hB := hB.below hb1 hB.lt
        replace hbel := hbel.trans (hb1.mono hbel.size)
        clear hb1 e0 e1 e2 e3 e4 e5 z0 z1 z2 z3 z4 z5
        obtain ⟨e0, e1, e2, e3, e4, e5⟩ := hB.six
        obtain ⟨z0, z1, z2, z3, z4, z5⟩ := hB.fr6
        go_wp2
        refine bodyPost_ret (v := .tuple #[.agg (mc (made zs)), I 0]) ?_ rfl ⟨by rw [Hr.out.1, Hr.out.2], by (repeat (first | with_reducible assumption | with_reducible exact Below.refl _ _ | with_reducible refine Below.setCell ?_ (by first | omega | (simp <;> omega)) _ | with_reducible refine Below.alloc ?_ (by first | omega | (simp <;> omega)) _ | with_reducible refine Below.drew ?_ | with_reducible refine Below.drewN ?_ _))⟩
        simp [results, Tryz.results81, go_sem, *]

end Go.Proofs.YtkbfocoaobiijaaGreat

/- Contracts of the maps of words; no conditions beyond those that each theorem states. -/
import Derived.Test.YtomhmodpiddedaaE1
import Derived.Test.YtomhmodpiddedaaK1
import Derived.Test.YtomhmodpiddedaaD1
namespace Go.Proofs.Ytomhmodpiddedaa
open Go.RowKit
set_option maxRecDepth 100000

def wordB (n : Nat) (us : List Int) : Bool := decide (us.length ≤ 100) && us.all fun z => inR z 0 ((n : Int) - 1)
theorem wordB_iff {n : Nat} {us : List Int} : wordB n us = true ↔ us.length ≤ 100 ∧ ∀ j, j < us.length → inR (gi us j) 0 ((n : Int) - 1) = true := by
  unfold wordB
  rw [Bool.and_eq_true, decide_eq_true_eq, List.all_eq_true]
  constructor
  · rintro ⟨h1, h2⟩; exact ⟨h1, fun j hj => h2 _ (gi_mem hj)⟩
  · rintro ⟨h1, h2⟩
    refine ⟨h1, fun x hx => ?_⟩
    obtain ⟨j, hj, rfl⟩ := List.getElem_of_mem hx
    have := h2 j hj
    rwa [gi_eq hj] at this

theorem isWord1_any (z : Int) (q : Nat) (A : Option Addr) (n c : Nat) (w : World) (hq : w.cell? ⟨q, 0, none⟩ = some (.slice A n c)) (hn : n < 1073741824) :
    Calls Try.prog 118 #[I z, .pointer (some ⟨q, 0, none⟩)] w fun e w' => e = .returned (.bool (!inR z 0 ((n : Int) - 1))) ∧ Below w.heap.size w w' := by
  have hw : IntKind.i64.wrap ((n : Int) - 1) = (n : Int) - 1 := IntWalk.i64_in _ ⟨by omega, by omega⟩
  go_enter Try.func118, Try.ntmps118
  go_wp2_with fail
  refine (within_any _ _ _ _).mono ?_
  rintro e w2 ⟨rfl, rfl⟩
  go_wp2
  go_ret
  exact ⟨ret_bool (by simp), Below.refl _ _⟩

/-- the function value that isWord hands on -/
def Outs (q B : Nat) (w0 : World) (zs : List Int) (p : Int → Bool) : Prop :=
  ∀ w' z, Below B w0 w' → z ∈ zs → Calls Try.prog 118 #[I z, .pointer (some ⟨q, 0, none⟩)] w' fun e w'' => e = .returned (.bool (p z)) ∧ Below w'.heap.size w' w''
abbrev outer (q : Nat) : Value := .func (.func 118) #[] #[.pointer (some ⟨q, 0, none⟩)]

theorem indexW_any (A : Option Addr) (n c q B : Nat) (zs : List Int) (p : Int → Bool) (w0 w : World) (hx : RdI w w.heap.size A zs) (hn : zs.length = n) (hb : n < 1073741824) (hd : Outs q B w0 zs p) (hw : Below B w0 w) (hBw : B ≤ w.heap.size) :
    Calls Try.prog 125 #[.slice A n c, outer q] w fun e w' => e = .returned (I (idxF p zs)) ∧ Below w.heap.size w w' := by
  have Hn := Lib.hid hn
  have Hx := Lib.hid hx
  clear hn hx
  go_enter Try.func125, Try.ntmps125
  go_wp2
  go_loopw [8] (fun i wr => ∃ k : Nat, k ≤ n ∧ i = .int .i64 k ∧ Hid (∀ j, j < k → p (gi zs j) = false) ∧ Below w.heap.size w wr) (fun i _ => n - (intOf i).toNat)
  case atStart => exact ⟨0, by omega, rfl, fun j hj => absurd hj (by omega), by (repeat (first | with_reducible assumption | with_reducible exact Below.refl _ _ | with_reducible refine Below.setCell ?_ (by first | omega | (simp <;> omega)) _ | with_reducible refine Below.alloc ?_ (by first | omega | (simp <;> omega)) _ | with_reducible refine Below.drew ?_ | with_reducible refine Below.drewN ?_ _))⟩
  case round =>
    obtain ⟨k, hk, rfl, hg, hbel⟩ := hrel
    by_cases hlt : k < n
    · obtain ⟨b, off, rfl, hbb, c1⟩ := RdI.at_ (Hx.out.below hbel) (k := k) (by rw [Hn.out]; exact hlt)
      have hcall := hd wr (gi zs k) (hw.trans (hbel.mono hBw)) (gi_mem (by rw [Hn.out]; exact hlt))
      have Hc := Lib.hid hcall
      clear hcall
      go_wp2_with fail
      refine Hc.out.mono ?_
      rintro e w2 ⟨rfl, hb2⟩
      replace hbel := hbel.trans (hb2.mono hbel.size)
      clear hb2 c1
      cases hp : p (gi zs k)
      · have Hr : Hid (∀ j, j < k + 1 → p (gi zs j) = false) := by
          intro j hj
          by_cases e : j = k
          · subst e; exact hp
          · exact hg.out j (by omega)
        go_wp2
        go_roundw
        case rel => exact ⟨k + 1, by omega, by go_num, Hr.out, hbel⟩
        case measure => simp [intOf]; omega
      · have Hr : Hid (idxF p zs = k) := idxF_found (by rw [Hn.out]; exact hlt) hp hg.out
        go_wp2
        go_ret
        exact ⟨ret_int Hr.out.symm, hbel⟩
    · have Hr : Hid (idxF p zs = -1) := idxF_none fun j hj => hg.out j (by have := Hn.out; omega)
      go_wp2
      go_ret
      exact ⟨ret_int Hr.out.symm, hbel⟩

theorem containsW_any (A : Option Addr) (n c q B : Nat) (zs : List Int) (p : Int → Bool) (w0 w : World) (hx : RdI w w.heap.size A zs) (hn : zs.length = n) (hb : n < 1073741824) (hd : Outs q B w0 zs p) (hw : Below B w0 w) (hBw : B ≤ w.heap.size) :
    Calls Try.prog 117 #[.slice A n c, outer q] w fun e w' => e = .returned (.bool (decide (0 ≤ idxF p zs))) ∧ Below w.heap.size w w' := by
  have Hn := Lib.hid hn
  have Hx := Lib.hid hx
  have Hd := Lib.hid hd
  have Hw := Lib.hid hw
  clear hn hx hd hw
  go_enter Try.func117, Try.ntmps117
  go_wp2_with fail
  refine (indexW_any A n c q B zs p w0 _ Hx.out Hn.out hb Hd.out Hw.out hBw).mono ?_
  rintro e w1 ⟨rfl, hb1⟩
  go_wp2
  go_ret
  exact ⟨ret_bool (by simp), hb1⟩

theorem isWord_any (A A2 : Option Addr) (n c m d : Nat) (us : List Int) (w : World) (hx : RdI w w.heap.size A2 us) (hm : us.length = m) (hn : n < 1073741824) (hb : m < 1073741824) :
    Calls Try.prog 80 #[.slice A n c, .slice A2 m d, .int .i64 100] w fun e w' => e = .returned (.bool (wordB n us)) ∧ Below w.heap.size w w' := by
  have Hm := Lib.hid hm
  have Hx := Lib.hid hx
  clear hm hx
  by_cases h : m ≤ 100
  · have hle : (m : Int) ≤ 100 := by omega
    have Ho : Hid (∀ w0 : World, w0.cell? ⟨w.heap.size, 0, none⟩ = some (.slice A n c) → w.heap.size < w0.heap.size → Outs w.heap.size w0.heap.size w0 us (fun z => !inR z 0 ((n : Int) - 1))) := by
      intro w0 h0 hl w' z hb' hz
      exact isWord1_any z w.heap.size A n c w' ((hb'.cell (p := ⟨w.heap.size, 0, none⟩) hl).trans h0) hn
    have Hr : Hid ((!decide (0 ≤ idxF (fun z => !inR z 0 ((n : Int) - 1)) us)) = wordB n us) := by
      show _ = _
      rw [Bool.eq_iff_iff, wordB_iff, Bool.not_eq_true', decide_eq_false_iff_not]
      constructor
      · intro hneg
        refine ⟨by have := Hm.out; omega, fun j hj => ?_⟩
        rcases idxF_cases (fun z => !inR z 0 ((n : Int) - 1)) us with h1 | ⟨k, h1, _⟩
        · have := idxF_keep h1
          rw [keepF, List.filter_eq_self] at this
          simpa using this _ (gi_mem hj)
        · omega
      · rintro ⟨_, h2⟩ h3
        rcases idxF_cases (fun z => !inR z 0 ((n : Int) - 1)) us with h1 | ⟨k, h1, hk, hp, _⟩
        · omega
        · rw [h2 k hk] at hp; cases hp
    go_enter Try.func80, Try.ntmps80
    go_wp2_with fail
    refine (containsW_any A2 m d w.heap.size _ us _ _ _ (Rd.more (Rd.alloc Hx.out (Nat.le_refl _) _) (by simp)) Hm.out hb (Ho.out _ ((Blk.new _ _ _).cell 0) (by simp)) (Below.refl _ _) (Nat.le_refl _)).mono ?_
    rintro e w1 ⟨rfl, hb1⟩
    have hbel : Below w.heap.size w w1 := Below.trans (by (repeat (first | with_reducible assumption | with_reducible exact Below.refl _ _ | with_reducible refine Below.setCell ?_ (by first | omega | (simp <;> omega)) _ | with_reducible refine Below.alloc ?_ (by first | omega | (simp <;> omega)) _ | with_reducible refine Below.drew ?_ | with_reducible refine Below.drewN ?_ _))) (hb1.mono (by simp))
    clear hb1
    go_wp2
    go_ret
    exact ⟨ret_bool (by rw [← Hr.out]), hbel⟩
  · have hle : ¬ (m : Int) ≤ 100 := by omega
    have Hr : Hid (wordB n us = false) := by
      show _ = _
      rw [Bool.eq_false_iff]
      intro ht
      have := (wordB_iff.1 ht).1
      have := Hm.out
      omega
    go_enter Try.func80, Try.ntmps80
    go_wp2
    go_ret
    exact ⟨ret_bool Hr.out.symm, by (repeat (first | with_reducible assumption | with_reducible exact Below.refl _ _ | with_reducible refine Below.setCell ?_ (by first | omega | (simp <;> omega)) _ | with_reducible refine Below.alloc ?_ (by first | omega | (simp <;> omega)) _ | with_reducible refine Below.drew ?_ | with_reducible refine Below.drewN ?_ _))⟩
end Go.Proofs.Ytomhmodpiddedaa

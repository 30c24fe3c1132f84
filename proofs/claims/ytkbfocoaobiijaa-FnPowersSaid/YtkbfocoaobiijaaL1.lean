/- Contracts of the library's functions on lists of numbers: less, index, contains; no conditions beyond those that each theorem states. -/
import Derived.Test.YtkbfocoaobiijaaSl
import Derived.Test.YtkbfocoaobiijaaShelf
import Derived.Deep.QuietTactic
import Derived.BigQuiet
import Derived.IntWalk
import Derived.RegionTactic
import Derived.ChangeAlike
namespace Go.Proofs.Ytkbfocoaobiijaa
open Go.RowKit
set_option maxRecDepth 100000

theorem isNaN_any (x : Int) (w : World) : Calls Try.prog 102 #[I x] w fun e w' => e = .returned (.bool false) ∧ w = w' := by
  have h : (x != x) = false := by simp
  go_enter Try.func102, Try.ntmps102
  go_wp2
  go_ret
  exact ⟨by simp, rfl⟩

theorem less_any (x y : Int) (w : World) : Calls Try.prog 92 #[I x, I y] w fun e w' => e = .returned (.bool (decide (x < y))) ∧ w = w' := by
  cases h : decide (x < y)
  · have h' : ¬ x < y := by simpa using h
    go_enter Try.func92, Try.ntmps92
    go_wp2_with (go_at_call 102; refine (isNaN_any _ _).mono ?_; rintro e w' ⟨rfl, rfl⟩)
    go_ret
    exact ⟨rfl, rfl⟩
  · have h' : x < y := by simpa using h
    go_enter Try.func92, Try.ntmps92
    go_wp2_with (go_at_call 102; refine (isNaN_any _ _).mono ?_; rintro e w' ⟨rfl, rfl⟩)
    go_ret
    exact ⟨rfl, rfl⟩

/-- where z stands first in zs, or -1 -/
def idx (z : Int) : List Int → Int
  | [] => -1
  | x :: xs => if z = x then 0 else (if idx z xs = -1 then -1 else idx z xs + 1)
theorem idx_ge (z : Int) : ∀ xs, -1 ≤ idx z xs ∧ (idx z xs = -1 ↔ z ∉ xs)
  | [] => by simp [idx]
  | x :: xs => by
    have ih := idx_ge z xs
    unfold idx
    by_cases h : z = x
    · simp [h]
    · rw [if_neg h]
      by_cases h1 : idx z xs = -1
      · rw [if_pos h1]; simp [h, ih.2.1 h1]
      · rw [if_neg h1]
        have : z ∈ xs := by
          refine Classical.byContradiction fun hn => h1 (ih.2.2 hn)
        simp [this]; omega
theorem idx_found {z : Int} : ∀ {xs : List Int} {k : Nat}, k < xs.length → gi xs k = z → (∀ j, j < k → gi xs j ≠ z) → idx z xs = k
  | [], k, hk, _, _ => by simp at hk
  | x :: xs, 0, _, h, _ => by simp [gi] at h; simp [idx, h]
  | x :: xs, k + 1, hk, h, hn => by
    have h0 : z ≠ x := fun e => hn 0 (by omega) (by simp [gi, e])
    have ih := idx_found (z := z) (xs := xs) (k := k) (by simpa using hk) (by simpa [gi] using h) (fun j hj => by have := hn (j + 1) (by omega); simpa [gi] using this)
    unfold idx
    rw [if_neg h0, ih, if_neg (by omega)]
    simp
theorem idx_none {z : Int} {xs : List Int} (h : ∀ j, j < xs.length → gi xs j ≠ z) : idx z xs = -1 := by
  rw [(idx_ge z xs).2]
  intro hm
  obtain ⟨j, hj, e⟩ := List.getElem_of_mem hm
  exact h j hj (by rw [gi_eq hj]; exact e)

def SortedTo (cs : List Int) (i : Nat) : Prop := ∀ a b, a < b → b < i → gi cs a ≤ gi cs b
def Ins (cs : List Int) (i j : Nat) : Prop := (∀ a b, a < b → b ≤ i → a ≠ j → b ≠ j → gi cs a ≤ gi cs b) ∧ ∀ b, j < b → b ≤ i → gi cs j ≤ gi cs b
theorem Ins.start {cs : List Int} {i : Nat} (h : SortedTo cs i) : Ins cs i i := ⟨fun a b hab hb _ hbi => h a b hab (by omega), fun b h1 h2 => by omega⟩
theorem Ins.stop {cs : List Int} {i j : Nat} (h : Ins cs i j) (hs : j = 0 ∨ gi cs (j - 1) ≤ gi cs j) : SortedTo cs (i + 1) := by
  have main : ∀ a b, a < b → b ≤ i → gi cs a ≤ gi cs b := by
    intro a b hab hb
    by_cases h1 : a = j
    · subst h1; exact h.2 b hab hb
    · by_cases h2 : b = j
      · subst h2
        rcases hs with h0 | h0
        · omega
        · by_cases h3 : a = b - 1
          · subst h3; exact h0
          · exact Int.le_trans (h.1 a (b - 1) (by omega) (by omega) h1 (by omega)) h0
      · exact h.1 a b hab hb h1 h2
  exact fun a b hab hb => main a b hab (by omega)
def swapped (cs : List Int) (j : Nat) : List Int := (cs.set j (gi cs (j - 1))).set (j - 1) (gi cs j)
theorem gi_set {cs : List Int} {k j : Nat} {v : Int} (hk : k < cs.length) : gi (cs.set k v) j = if j = k then v else gi cs j := by
  unfold gi
  by_cases h : j = k
  · subst h; simp [List.getD, hk]
  · rw [if_neg h]; simp [List.getD, List.getElem?_set_ne (Ne.symm h)]
theorem gi_swapped {cs : List Int} {j : Nat} (hj : j < cs.length) (h0 : 0 < j) (k : Nat) : gi (swapped cs j) k = if k = j - 1 then gi cs j else if k = j then gi cs (j - 1) else gi cs k := by
  unfold swapped
  rw [gi_set (by simp; omega), gi_set hj]
theorem swapped_length (cs : List Int) (j : Nat) : (swapped cs j).length = cs.length := by simp [swapped]
theorem Ins.step {cs : List Int} {i j : Nat} (h : Ins cs i j) (hj : j < cs.length) (h0 : 0 < j) (hji : j ≤ i) (hlt : gi cs j < gi cs (j - 1)) : Ins (swapped cs j) i (j - 1) := by
  constructor
  · intro a b hab hb ha1 hb1
    rw [gi_swapped hj h0, gi_swapped hj h0, if_neg ha1, if_neg hb1]
    by_cases h1 : a = j
    · subst h1
      rw [if_pos rfl, if_neg (by omega)]
      exact h.1 (a - 1) b (by omega) hb (by omega) (by omega)
    · rw [if_neg h1]
      by_cases h2 : b = j
      · subst h2
        rw [if_pos rfl]
        exact h.1 a (b - 1) (by omega) (by omega) h1 (by omega)
      · rw [if_neg h2]; exact h.1 a b hab hb h1 h2
  · intro b hb1 hb2
    rw [gi_swapped hj h0, gi_swapped hj h0, if_pos rfl, if_neg (by omega)]
    by_cases h2 : b = j
    · rw [if_pos h2]; omega
    · rw [if_neg h2]; exact h.2 b (by omega) hb2
theorem perm_swapped {cs : List Int} {j : Nat} (hj : j < cs.length) (h0 : 0 < j) : (swapped cs j).Perm cs := by
  rw [List.perm_iff_count]
  intro x
  have e1 : gi cs j = cs[j] := gi_eq hj
  have e2 : gi cs (j - 1) = cs[j - 1] := gi_eq (by omega)
  unfold swapped
  rw [List.count_set (by simp; omega), List.count_set hj]
  rw [List.getElem_set_ne (by omega)]
  have hp1 : 0 < cs.count cs[j] := List.count_pos_iff.2 (List.getElem_mem _)
  have hp2 : 0 < cs.count cs[j - 1] := List.count_pos_iff.2 (List.getElem_mem _)
  rw [e1, e2]
  generalize cs[j] = u at *
  generalize cs[j - 1] = v at *
  by_cases c1 : u = x
  · subst c1
    by_cases c2 : v = u
    · subst c2; simp; omega
    · simp [c2]; omega
  · by_cases c2 : v = x
    · subst c2; simp [c1]
    · simp [c1, c2]

theorem drewN_grown {w w' : World} {row : Option Nat} (h : w.grownBy w' row) (n : Nat) : w.grownBy (w'.drewN n) row := ⟨h.os, h.tape, h.output, h.size, h.block⟩
theorem drew_grown {w w' : World} {row : Option Nat} (h : w.grownBy w' row) : w.grownBy w'.drew row := ⟨h.os, h.tape, h.output, h.size, h.block⟩

theorem insertion_any (v : Value) (B : Nat) (zs : List Int) (n : Nat) (w : World) (hown : OwI 2 w B v zs) (hn : zs.length = n) (hb : n < 1073741824) :
    Calls Try.prog 86 #[v, .int .i64 0, .int .i64 n] w fun e w' => e = .returned (.tuple #[]) ∧ ∃ cs, cs.Perm zs ∧ SortedTo cs n ∧ OwI 2 w' B v cs ∧ w.grownBy w' v.ownBlock := by
  obtain ⟨A, c, rfl, _⟩ := hown.form
  have Hn := Lib.hid hn
  clear hn
  go_enter Try.func86, Try.ntmps86
  go_wp2
  go_loopw [6] (fun i wr => ∃ k : Nat, 1 ≤ k ∧ (k ≤ n ∨ k = 1) ∧ i = .int .i64 k ∧ ∃ cs : List Int, Hid (cs.Perm zs ∧ SortedTo cs k) ∧ OwI 2 wr B (.slice A zs.length c) cs ∧ w.grownBy wr (Value.slice A zs.length c).ownBlock) (fun i _ => n - (intOf i).toNat)
  case atStart => exact ⟨1, by omega, by omega, rfl, zs, ⟨List.Perm.refl _, fun a b h1 h2 => by omega⟩, hown, World.grownBy.refl w _⟩
  case round =>
    obtain ⟨k, hk1, hk2, rfl, cs, hcs, ho, hg⟩ := hrel
    by_cases hlt : k < n
    · go_wp2_with fail
      have hk3 : k < n := hlt
      clear hlt
      go_loopw [7] (fun jv wq => ∃ j : Nat, j ≤ k ∧ jv = .int .i64 j ∧ ∃ ds : List Int, Hid (ds.Perm zs ∧ Ins ds k j) ∧ OwI 2 wq B (.slice A zs.length c) ds ∧ w.grownBy wq (Value.slice A zs.length c).ownBlock) (fun jv _ => (intOf jv).toNat)
      case atStart => exact ⟨k, by omega, rfl, cs, ⟨hcs.out.1, Ins.start hcs.out.2⟩, ho, hg⟩
      case round =>
        clear ho hg
        obtain ⟨j, hj, rfl, ds, hds, ho, hg⟩ := hrel
        have hlen : ds.length = n := by rw [hds.out.1.length_eq, Hn.out]
        match j, hj, hds with
        | 0, hj, hds =>
          have Hs : Hid (ds.Perm zs ∧ SortedTo ds (k + 1)) := ⟨hds.out.1, hds.out.2.stop (.inl rfl)⟩
          clear hlen
          have hgt : decide ((0 : Int) < 0) = false := by decide
          go_wp2_with fail
          go_quiet ((go_at_call 92; exact Calls.quiet_of_same ((less_any _ _ _).mono fun _ _ h => ⟨h.1, h.2.symm⟩)))
          go_wp2
          go_roundw
          case rel => exact ⟨k + 1, by omega, by omega, by go_num, ds, Hs, ho.drewN _, drewN_grown hg _⟩
          case measure => simp [intOf]; omega
        | q + 1, hj, hds =>
          obtain ⟨g, c', he, hgB, hgl, c1, z1, hs1⟩ := ho.spot (k := q + 1) (by omega)
          obtain ⟨_, _, he', _, _, c2, z2, hs2⟩ := ho.spot (k := q) (by omega)
          injection he with he1 he3 he2
          subst he1 he2
          injection he' with he1 hx1 hx2
          injection he1 with he1
          injection he1 with he1 hx3
          subst he1
          clear hx1 hx2
          have Hlen := Lib.hid hlen
          have H1 := Lib.hid hs1
          have H2 := Lib.hid hs2
          have Ho := Lib.hid ho
          clear hlen hs1 hs2 he3 ho
          have b1 : (0 : Int) < (q : Int) + 1 := by omega
          have b2 : (0 : Int) ≤ (q : Int) + 1 := by omega
          have b3 : (q : Int) + 1 < (zs.length : Int) := by have := Hn.out; omega
          have b4 : (0 : Int) ≤ (q : Int) := by omega
          have b5 : (q : Int) < (zs.length : Int) := by have := Hn.out; omega
          have e1 : ((q : Int) + 1).toNat = q + 1 := by omega
          have e2 : IntKind.i64.wrap ((q : Int) + 1 - 1) = (q : Int) := IntWalk.i64_in _ (by omega) |>.trans (by omega)
          have hgt : decide ((0 : Int) < (q : Int) + 1) = true := decide_eq_true b1
          by_cases hl : gi ds (q + 1) < gi ds q
          · have hlb : decide (gi ds (q + 1) < gi ds q) = true := decide_eq_true hl
            go_wp2_with fail
            go_quiet ((go_at_call 92; exact Calls.quiet_of_same ((less_any _ _ _).mono fun _ _ h => ⟨h.1, h.2.symm⟩)))
            go_wp2_with fail
            have Hs : Hid ((swapped ds (q + 1)).Perm zs ∧ Ins (swapped ds (q + 1)) k q) :=
              ⟨(perm_swapped (by have := Hlen.out; have := Hn.out; omega) (by omega)).trans hds.out.1, hds.out.2.step (by have := Hlen.out; have := Hn.out; omega) (by omega) hj (by simpa using hl)⟩
            go_region
            go_wp2
            go_roundw
            case rel =>
              have h1 := H1.out (gi ds q)
              obtain ⟨g2, _, he2, _, _, _, _, h2⟩ := h1.spot (k := q) (by have := Hlen.out; have := Hn.out; simp; omega)
              injection he2 with he2 _ _
              injection he2 with he2
              injection he2 with he2 _
              subst he2
              exact ⟨q, by omega, by go_num, swapped ds (q + 1), Hs, (h2 (gi ds (q + 1))).of_heap rfl, grownBy_set (grownBy_set (drewN_grown hg _))⟩
            case measure => simp [intOf]
          · have hlb : decide (gi ds (q + 1) < gi ds q) = false := decide_eq_false hl
            have Hs : Hid (ds.Perm zs ∧ SortedTo ds (k + 1)) := ⟨hds.out.1, hds.out.2.stop (.inr (by simpa using hl))⟩
            go_wp2_with fail
            go_quiet ((go_at_call 92; exact Calls.quiet_of_same ((less_any _ _ _).mono fun _ _ h => ⟨h.1, h.2.symm⟩)))
            go_wp2
            go_roundw
            case rel => exact ⟨k + 1, by omega, by omega, by go_num, ds, Hs, Ho.out.drewN _, drewN_grown hg _⟩
            case measure => simp [intOf]; omega
    · have Hfin : Hid (cs.Perm zs ∧ SortedTo cs n) := ⟨hcs.out.1, fun a b h1 h2 => hcs.out.2 a b h1 (by omega)⟩
      go_wp2
      go_end0
      exact ⟨rfl, cs, Hfin.out.1, Hfin.out.2, ho, hg⟩

theorem pdq_any (v : Value) (B : Nat) (zs : List Int) (n : Nat) (lim : Int) (w : World) (hown : OwI 2 w B v zs) (hn : zs.length = n) (hb : n ≤ 12) :
    Calls Try.prog 84 #[v, .int .i64 0, .int .i64 n, .int .i64 lim] w fun e w' => e = .returned (.tuple #[]) ∧ ∃ cs, cs.Perm zs ∧ SortedTo cs n ∧ OwI 2 w' B v cs ∧ w.grownBy w' v.ownBlock := by
  have Hn := Lib.hid hn
  have Ho := Lib.hid hown
  clear hn hown
  have h1 : (n : Int) ≤ 12 := by omega
  go_enter Try.func84, Try.ntmps84
  go_wp2_with fail
  refine wp_loop_rounds 1 ?_
  rw [rounds_succ]
  go_wp2_with fail
  refine (insertion_any v B zs n _ Ho.out Hn.out (by omega)).mono ?_
  rintro e w1 ⟨rfl, H⟩
  have HH := Lib.hid H
  clear H
  go_wp2
  exact bodyPost_ret (v := .tuple #[]) (by simp [results, Try.results84, go_sem]) rfl ⟨rfl, HH.out⟩

theorem sortI_any (v : Value) (B : Nat) (zs : List Int) (w : World) (hown : OwI 2 w B v zs) (hb : zs.length ≤ 12) :
    Calls Try.prog 82 #[v] w fun e w' => e = .returned (.tuple #[]) ∧ ∃ cs, cs.Perm zs ∧ SortedTo cs zs.length ∧ OwI 2 w' B v cs ∧ w.grownBy w' v.ownBlock := by
  obtain ⟨A, c, rfl, _⟩ := hown.form
  have Ho := Lib.hid hown
  clear hown
  have h0 : (0 : Int) ≤ (zs.length : Int) := by omega
  have h1 : (zs.length : Int) ≤ 12 := by omega
  go_enter Try.func82, Try.ntmps82
  go_wp2_with fail
  refine (Try.bits_Len (zs.length : Int) _ (by omega) (by omega)).mono ?_
  rintro e w1 ⟨rfl, rfl⟩
  go_wp2_with fail
  refine (pdq_any _ B zs zs.length _ _ Ho.out rfl hb).mono ?_
  rintro e w2 ⟨rfl, H⟩
  have HH := Lib.hid H
  clear H
  go_wp2
  go_end0
  exact ⟨rfl, HH.out⟩

end Go.Proofs.Ytkbfocoaobiijaa

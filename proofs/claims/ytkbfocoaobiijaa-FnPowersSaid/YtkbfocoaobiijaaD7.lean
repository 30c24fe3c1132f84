/- Contracts of images of sets and of ranks; the maps are valid where the theorems say so. -/
import Derived.Test.YtkbfocoaobiijaaD3
import Derived.Test.YtkbfocoaobiijaaD5
import Derived.Test.YtkbfocoaobiijaaL1
import Derived.Test.YtkbfocoaobiijaaDc
namespace Go.Proofs.Ytkbfocoaobiijaa
open Go.RowKit
set_option maxRecDepth 100000

/-- where the points of a list are led -/
def led (f : M) (zs : List Int) : List Int := zs.map fun z => f.at z.toNat

theorem led_length (f : M) (zs : List Int) : (led f zs).length = zs.length := by simp [led]
theorem led_snoc {f : M} {zs : List Int} {k : Nat} (hk : k < zs.length) : led f (zs.take (k + 1)) = led f (zs.take k) ++ [f.at (gi zs k).toNat] := by
  rw [List.take_add_one, List.getElem?_eq_getElem hk, led, led, gi_eq hk, List.map_append]; rfl
def imQ (f : M) (zs : List Int) (z : Int) : Bool := decide (z ∈ led f zs)

theorem ups_strict : ∀ n, (ups n).Pairwise (· < ·)
  | 0 => List.Pairwise.nil
  | n + 1 => by
    rw [ups_succ, List.pairwise_append]
    refine ⟨ups_strict n, by simp, fun a ha b hb => ?_⟩
    obtain ⟨k, hk, rfl⟩ := ups_mem ha
    simp at hb; omega
theorem sel_strict (q : Int → Bool) (n : Nat) : (sel q n).Pairwise (· < ·) := (ups_strict n).filter q
theorem sel_mem {q : Int → Bool} {n : Nat} {z : Int} : z ∈ sel q n ↔ (∃ k : Nat, k < n ∧ z = k) ∧ q z = true := by
  rw [sel, List.mem_filter]
  constructor
  · rintro ⟨h1, h2⟩; exact ⟨ups_mem h1, h2⟩
  · rintro ⟨⟨k, hk, rfl⟩, h2⟩; exact ⟨by simp [ups]; exact ⟨k, hk, rfl⟩, h2⟩
theorem sorted_pair {cs : List Int} (h : SortedTo cs cs.length) : cs.Pairwise (· ≤ ·) := by
  rw [List.pairwise_iff_getElem]
  intro i j hi hj hij
  have := h i j hij hj
  rwa [gi_eq hi, gi_eq hj] at this
theorem dd_img {f : M} {zs cs : List Int} {N : Nat} (hp : cs.Perm (led f zs)) (hs : SortedTo cs cs.length) (hbd : ∀ z, z ∈ led f zs → 0 ≤ z ∧ z < N) : dd cs = sel (imQ f zs) N := by
  refine strict_ext (dd_strict (sorted_pair hs)) (sel_strict _ _) fun z => ?_
  rw [dd_mem, sel_mem, hp.mem_iff]
  constructor
  · intro h
    have := hbd z h
    exact ⟨⟨z.toNat, by omega, by omega⟩, by simp [imQ, h]⟩
  · rintro ⟨_, h⟩; simpa [imQ] using h

theorem compact_nil (w : World) : Calls Try.prog 83 #[.slice none 0 0] w fun e w' => e = .returned (.slice none 0 0) ∧ w = w' := by
  go_enter Try.func83, Try.ntmps83
  go_wp2
  go_ret
  exact ⟨rfl, rfl⟩

theorem compact_all (v : Value) (B : Nat) (zs : List Int) (w : World) (ho : OwI 2 w B v zs) (hb : zs.length < 1073741824) :
    Calls Try.prog 83 #[v] w fun e w' => ∃ v', e = .returned v' ∧ OwI 2 w' B v' (dd zs) ∧ Below B w w' := by
  rcases ho.2 with ⟨rfl, h0⟩ | ⟨g, cap, cur, rfl, _⟩
  · obtain rfl : zs = [] := List.eq_nil_of_length_eq_zero h0
    refine (compact_nil w).mono ?_
    rintro e w' ⟨rfl, rfl⟩
    exact ⟨_, rfl, ho, Below.refl _ _⟩
  · exact compact_any g zs.length cap B zs w ho hb

theorem image_any (f : M) (A : Option Addr) (n c : Nat) (zs : List Int) (w : World) (hv : Valid f) (hx : RdI w w.heap.size A zs) (hn : zs.length = n) (hb : n ≤ 12) (hbd : ∀ j, j < zs.length → 0 ≤ gi zs j ∧ gi zs j < f.p) :
    Calls Try.prog 77 #[.agg (mc f), .slice A n c] w fun e w' => ∃ v, e = .returned v ∧ OwI 2 w' w.heap.size v (sel (imQ f zs) 5) ∧ Below w.heap.size w w' := by
  have hp1 := hv.p1
  have hp5 := hv.p5
  have Hn := Lib.hid hn
  have Hx := Lib.hid hx
  have Hd := Lib.hid hbd
  clear hn hx hbd
  have HX : Hid (∀ w', Below w.heap.size w w' → RdI w' w.heap.size A zs) := fun w' hb => Hx.out.below hb
  go_enter Try.func77, Try.ntmps77
  go_wp2
  go_loopw [5, 10] (fun v i wr => ∃ k : Nat, k ≤ n ∧ i = .int .i64 k ∧ OwI 2 wr (w.heap.size + 1) v (led f (zs.take k)) ∧ Six wr w.heap.size f ∧ Below w.heap.size w wr) (fun _ i _ => n - (intOf i).toNat)
  case atStart => exact ⟨0, by omega, rfl, OwI.nil_, Blk.six (Blk.new _ _ _), by (repeat (first | with_reducible assumption | with_reducible exact Below.refl _ _ | with_reducible refine Below.setCell ?_ (by first | omega | (simp <;> omega)) _ | with_reducible refine Below.alloc ?_ (by first | omega | (simp <;> omega)) _ | with_reducible refine Below.drew ?_ | with_reducible refine Below.drewN ?_ _))⟩
  case round =>
    obtain ⟨k, hk, rfl, ho, hs, hbel⟩ := hrel
    obtain ⟨S, d, hv', _⟩ := ho.form
    have hlen : (led f (zs.take k)).length = k := by rw [led_length, List.length_take, Hn.out]; omega
    rw [hlen] at hv'
    subst hv'
    have Hlen := Lib.hid hlen
    have hsz := hbel.size
    have hsl := hs.lt
    clear hlen
    by_cases hlt : k < n
    · obtain ⟨b, off, rfl, hbb, c1⟩ := RdI.at_ (HX.out _ hbel) (k := k) (by rw [Hn.out]; exact hlt)
      obtain ⟨b1, b2⟩ := Hd.out k (by rw [Hn.out]; exact hlt)
      have c2 := six_at hs (gi zs k).toNat (by omega)
      have hb5 : gi zs k < 5 := by omega
      have Hls := Lib.hid (led_snoc (f := f) (zs := zs) (k := k) (by rw [Hn.out]; exact hlt))
      go_wp2_with (at_builtin; refine wpList_pushI rfl (.tmp 14) (.tmp 19) rfl (w.heap.size + 1) (.slice S k d) (led f (zs.take k)) rfl (ho.alloc _) wr.heap.size 1 (f.at (gi zs k).toNat) rfl ((Blk.new _ _ _).cell 0) (by rw [Hlen.out]; omega) (by simp; omega) (wr.heap.size + 1) (by simp) ?_; intro g' cap w4 ho' hgr hg' hlt')
      go_roundw
      case rel => exact ⟨k + 1, by omega, by go_num, by rw [Hls.out]; simpa [Hlen.out] using ho', (hs.alloc _).grown hgr (ho.ne (by omega)), (ho.alloc _).bel (hbel.alloc hsz _) hgr (by omega) (by simp; omega)⟩
      case measure => simp [intOf]; omega
    · obtain rfl : k = n := by omega
      have e : zs.take k = zs := by rw [← Hn.out, List.take_length]
      rw [e] at ho Hlen
      clear e
      go_wp2_with fail
      refine (sortI_any _ (w.heap.size + 1) (led f zs) _ ho (by rw [Hlen.out]; omega)).mono ?_
      rintro e w2 ⟨rfl, cs, hp, hsd, ho2, hg⟩
      have hcl : cs.length = k := by rw [hp.length_eq, Hlen.out]
      have Hdd : Hid (dd cs = sel (imQ f zs) 5) := dd_img hp (by rw [hp.length_eq]; exact hsd) (by
        intro z hz
        simp [led] at hz
        obtain ⟨y, hy, rfl⟩ := hz
        obtain ⟨j, hj, e⟩ := List.getElem_of_mem hy
        have := Hd.out j hj
        rw [gi_eq hj, e] at this
        have h1 := hv.lo y.toNat (by omega) (by omega)
        have h2 := hv.hi y.toNat (by omega) (by omega)
        omega)
      have hbel2 := ho.bel hbel hg (by omega) (by omega)
      have hcl2 : cs.length < 1073741824 := by omega
      clear hp hsd hg ho hcl
      go_wp2_with fail
      refine (compact_all _ (w.heap.size + 1) cs _ ho2 hcl2).mono ?_
      rintro e w3 ⟨v', rfl, ho3, hb3⟩
      rw [Hdd.out] at ho3
      have Ho := Lib.hid (ho3.mono (B' := w.heap.size) (by omega))
      have hbel3 := hbel2.trans (hb3.mono (by omega))
      clear ho2 ho3 hb3 hbel2
      go_wp2
      go_ret
      exact ⟨_, rfl, Ho.out, hbel3⟩

/-- where the points of a mask are led, as a mask -/
def mv (f : M) (m : Nat) : Nat → Nat
  | 0 => 0
  | k + 1 => if m.testBit k then mv f m k ||| 2 ^ (f.at k).toNat else mv f m k
theorem mv_lt {f : M} (hf : Valid f) (m : Nat) : ∀ k : Nat, (k : Int) ≤ f.p → mv f m k < 32
  | 0, _ => by simp [mv]
  | k + 1, h => by
    have h5 := hf.p5
    have b1 := hf.lo k (by omega) (by omega)
    have b2 := hf.hi k (by omega) (by omega)
    rw [mv]
    split
    · exact (or_run (mv_lt hf m k (by omega)) (a := (f.at k).toNat) (by omega)).2
    · exact mv_lt hf m k (by omega)
theorem mv_bit (f : M) (m j : Nat) : ∀ k, (mv f m k).testBit j = true ↔ ∃ i, i < k ∧ m.testBit i = true ∧ (f.at i).toNat = j
  | 0 => by simp [mv]
  | k + 1 => by
    have ih := mv_bit f m j k
    rw [mv]
    by_cases hb : m.testBit k = true
    · rw [if_pos hb, Nat.testBit_or, Bool.or_eq_true, ih, Nat.testBit_two_pow, decide_eq_true_eq]
      constructor
      · rintro (⟨i, hi, h1, e⟩ | e)
        · exact ⟨i, by omega, h1, e⟩
        · exact ⟨k, by omega, hb, e⟩
      · rintro ⟨i, hi, h1, e⟩
        by_cases h : i = k
        · subst h; exact .inr e
        · exact .inl ⟨i, by omega, h1, e⟩
    · rw [if_neg hb, ih]
      constructor
      · rintro ⟨i, hi, h1, e⟩; exact ⟨i, by omega, h1, e⟩
      · rintro ⟨i, hi, h1, e⟩
        by_cases h : i = k
        · subst h; exact absurd h1 hb
        · exact ⟨i, by omega, h1, e⟩

end Go.Proofs.Ytkbfocoaobiijaa

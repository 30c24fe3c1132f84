/- Contracts of preimages; no conditions beyond those that each theorem states. -/
import Derived.Test.YtkbfocoaobiijaaGreatD3
import Derived.Test.YtkbfocoaobiijaaGreatD5
import Derived.Test.YtkbfocoaobiijaaGreatL1
namespace Go.Proofs.YtkbfocoaobiijaaGreat
open Go.RowKit
set_option maxRecDepth 100000

theorem dropsPre (h1 h2 : Nat) (q : Nat) (w0 w1 : World) (n : Nat) (pr : Int → Bool) (hcell : w1.cell? ⟨q, 0, none⟩ = some (.func (.func 190) #[] #[.pointer (some ⟨h1, 0, none⟩), .pointer (some ⟨h2, 0, none⟩)])) (hq : w0.heap.size ≤ q) (h01 : Below w0.heap.size w0 w1)
    (hIs : Hid (∀ w' z, Below w0.heap.size w0 w' → z ∈ ups n → Calls Tryz.prog 190 #[I z, .pointer (some ⟨h1, 0, none⟩), .pointer (some ⟨h2, 0, none⟩)] w' fun e w'' => e = .returned (.bool (pr z)) ∧ Below w'.heap.size w' w'')) : Drops q (q + 1) w1 (ups n) (fun z => !pr z) := by
  intro w' z hb hz
  have c1 := (hb.cell (p := ⟨q, 0, none⟩) (by simp)).trans hcell
  have Hc := Lib.hid (hIs.out w' z (h01.trans (hb.mono (by omega))) hz)
  clear hb hIs hcell h01
  go_enter Tryz.func240, Tryz.ntmps240
  go_wp2_with fail
  refine Hc.out.mono ?_
  rintro e w2 ⟨rfl, hb2⟩
  go_wp2
  go_ret
  exact ⟨rfl, hb2⟩

theorem wherePre (f : M) (h1 h2 : Nat) (w : World) (pr : Int → Bool) (hv : Valid f) (hIs : Hid (∀ w' z, Below w.heap.size w w' → z ∈ ups f.p.toNat → Calls Tryz.prog 190 #[I z, .pointer (some ⟨h1, 0, none⟩), .pointer (some ⟨h2, 0, none⟩)] w' fun e w'' => e = .returned (.bool (pr z)) ∧ Below w'.heap.size w' w'')) :
    Calls Tryz.prog 189 #[.agg (mc f), .func (.func 190) #[] #[.pointer (some ⟨h1, 0, none⟩), .pointer (some ⟨h2, 0, none⟩)]] w fun e w' => ∃ v, e = .returned v ∧ OwI 2 w' w.heap.size v (keepF (fun z => !pr z) (ups f.p.toNat)) ∧ Below w.heap.size w w' := by
  have hp1 := hv.p1
  have hp5 := hv.p5
  obtain ⟨n, hn⟩ : ∃ n : Nat, n = f.p.toNat := ⟨_, rfl⟩
  have hfp : f.p = (n : Int) := by omega
  rw [← hn] at hIs ⊢
  have hpt := fun w' => points_any n w' (by omega)
  rw [← hfp] at hpt
  have Hpt := Lib.hid hpt
  have hn1 : 1 ≤ n := by omega
  have hn5 : n ≤ 5 := by omega
  clear hpt hfp hn
  go_enter Tryz.func189, Tryz.ntmps189
  go_wp2_with fail
  refine (Hpt.out _).mono ?_
  rintro e w1 ⟨v, rfl, ho, hb⟩
  have hB1 : w1.cell? ⟨w.heap.size + 1, 0, none⟩ = some (.func (.func 190) #[] #[.pointer (some ⟨h1, 0, none⟩), .pointer (some ⟨h2, 0, none⟩)]) := (hb.cell (p := ⟨w.heap.size + 1, 0, none⟩) (by simp)).trans ((Blk.new' _ _ _ (by simp)).cell 0)
  have hbel : Below w.heap.size w w1 := Below.trans (by (repeat (first | with_reducible assumption | with_reducible exact Below.refl _ _ | with_reducible refine Below.setCell ?_ (by first | omega | (simp <;> omega)) _ | with_reducible refine Below.alloc ?_ (by first | omega | (simp <;> omega)) _ | with_reducible refine Below.drew ?_ | with_reducible refine Below.drewN ?_ _))) (hb.mono (by simp <;> omega))
  replace ho := ho.mono (B' := w.heap.size + 1 + 1) (by simp)
  have hsz : w.heap.size + 1 + 1 ≤ w1.heap.size := by have := hb.size; simpa using this
  have hd := dropsPre h1 h2 (w.heap.size + 1) w w1 n pr hB1 (by omega) hbel hIs
  obtain ⟨g, c, hv', _, _⟩ := World.ownsRow.form ho (by rw [ups_length]; omega)
  rw [ups_length] at hv'
  subst hv'
  have Hd := Lib.hid hd
  clear hb hB1 hd hIs
  go_wp2_with fail
  refine (deleteF_any g n c (w.heap.size + 1) (w.heap.size + 1 + 1) (ups n) (fun z => !pr z) w1 w1 ho (by omega) Hd.out (Below.refl _ _) hsz).mono ?_
  rintro e w2 ⟨v, rfl, ho2, hb2⟩
  have Ho := Lib.hid (ho2.mono (B' := w.heap.size) (by omega))
  replace hbel := hbel.trans (hb2.mono (by omega))
  clear ho ho2 hb2
  go_wp2
  go_ret
  exact ⟨_, rfl, Ho.out, hbel⟩

def preIs (f : M) (zs : List Int) (z : Int) : Bool := decide (f.at z.toNat ∈ zs)

theorem contains_q {A : Option Addr} {n c : Nat} {zs : List Int} {z : Int} (w : World) (m : Nat) (hx : RdI w w.heap.size A zs) (hn : zs.length = n) (hb : n < 1073741824) :
    Calls Tryz.prog 191 #[.slice A n c, I z] (w.drewN m) fun e w'' => e = .returned (.bool (decide (z ∈ zs))) ∧ ∃ k, w'' = w.drewN k :=
  (contains_any A n c zs z (w.drewN m) hx hn hb).mono fun _ _ hh => ⟨hh.1, m, hh.2.symm⟩

theorem preIs_any (f : M) (h1 h2 k : Nat) (A : Option Addr) (n c : Nat) (zs : List Int) (w : World) (hs : Six w h2 f) (hp : w.cell? ⟨h1, 0, none⟩ = some (.slice A n c)) (hk : k < 5) (hx : RdI w w.heap.size A zs) (hn : zs.length = n) (hb : n < 1073741824) :
    Calls Tryz.prog 190 #[.int .i64 k, .pointer (some ⟨h1, 0, none⟩), .pointer (some ⟨h2, 0, none⟩)] w fun e w' => e = .returned (.bool (preIs f zs k)) ∧ Below w.heap.size w w' := by
  have c1 := six_at hs k hk
  have i0 : (0 : Int) ≤ (k : Int) := by omega
  have i1 : (k : Int) < 5 := by omega
  have Hn := Lib.hid hn
  have Hx := Lib.hid hx
  clear hn hx hs
  go_enter Tryz.func190, Tryz.ntmps190
  go_wp2_with fail
  go_quiet ((go_at_call 191; exact contains_q _ _ Hx.out Hn.out hb))
  go_wp2
  go_ret
  exact ⟨rfl, (Below.refl _ _).drewN _⟩

/-- a list of points as a mask -/
def bm : List Int → Nat
  | [] => 0
  | z :: zs => bm zs ||| 2 ^ z.toNat
def bmTo (zs : List Int) : Nat → Nat
  | 0 => 0
  | k + 1 => bmTo zs k ||| 2 ^ (gi zs k).toNat
theorem bmTo_lt {zs : List Int} (h : ∀ j, j < zs.length → 0 ≤ gi zs j ∧ gi zs j < 5) : ∀ k, k ≤ zs.length → bmTo zs k < 32
  | 0, _ => by simp [bmTo]
  | k + 1, hk => by
    have := h k (by omega)
    exact (or_run (bmTo_lt h k (by omega)) (a := (gi zs k).toNat) (by omega)).2
theorem bmTo_bit {zs : List Int} (j : Nat) : ∀ k, (bmTo zs k).testBit j = true ↔ ∃ i, i < k ∧ (gi zs i).toNat = j
  | 0 => by simp [bmTo]
  | k + 1 => by
    rw [bmTo, Nat.testBit_or, Bool.or_eq_true, bmTo_bit j k, Nat.testBit_two_pow, decide_eq_true_eq]
    constructor
    · rintro (⟨i, hi, e⟩ | e)
      · exact ⟨i, by omega, e⟩
      · exact ⟨k, by omega, e⟩
    · rintro ⟨i, hi, e⟩
      by_cases h : i = k
      · subst h; exact .inr e
      · exact .inl ⟨i, by omega, e⟩
theorem bm_mem {zs : List Int} (h : ∀ j, j < zs.length → 0 ≤ gi zs j ∧ gi zs j < 5) {z : Int} (hz : 0 ≤ z) : (bmTo zs zs.length).testBit z.toNat = decide (z ∈ zs) := by
  rw [Bool.eq_iff_iff, bmTo_bit, decide_eq_true_eq]
  constructor
  · rintro ⟨i, hi, e⟩
    have := h i hi
    have e2 : gi zs i = z := by omega
    rw [← e2]; exact gi_mem hi
  · intro hm
    obtain ⟨i, hi, e⟩ := List.getElem_of_mem hm
    exact ⟨i, hi, by rw [gi_eq hi, e]⟩
theorem set_bd {f : M} {zs : List Int} (hv : Valid f) (hs : isSetB f.p zs = true) : ∀ j, j < zs.length → 0 ≤ gi zs j ∧ gi zs j < 5 := by
  intro j hj
  have := isSetB_iff.1 hs j hj
  unfold okAt at this
  rw [Bool.and_eq_true] at this
  have := inR_true.1 this.1
  have := hv.p5
  omega

theorem l01Bits_any (A : Option Addr) (n c : Nat) (zs : List Int) (w : World) (hx : RdI w w.heap.size A zs) (hn : zs.length = n) (hb : n < 1073741824) (hbd : ∀ j, j < zs.length → 0 ≤ gi zs j ∧ gi zs j < 5) :
    Calls Tryz.prog 188 #[.slice A n c] w fun e w' => e = .returned (I (bmTo zs n)) ∧ w = w' := by
  have Hn := Lib.hid hn
  have Hx := Lib.hid hx
  have Hd := Lib.hid hbd
  clear hn hx hbd
  go_enter Tryz.func188, Tryz.ntmps188
  go_wp2
  go_loop [3, 4] (fun s i => ∃ k : Nat, k ≤ n ∧ s = I (bmTo zs k) ∧ i = .int .i64 k) (fun _ i => n - (intOf i).toNat)
  case atStart => exact ⟨0, by omega, rfl, rfl⟩
  case round =>
    obtain ⟨k, hk, rfl, rfl⟩ := hrel
    by_cases hlt : k < n
    · obtain ⟨b, off, rfl, hbb, c1⟩ := Hx.out.at_ (k := k) (by rw [Hn.out]; exact hlt)
      obtain ⟨b1, b2⟩ := Hd.out k (by rw [Hn.out]; exact hlt)
      have ho := (or_run (bmTo_lt Hd.out k (by rw [Hn.out]; exact hk)) (a := (gi zs k).toNat) (by omega)).1
      have Hi : Hid (bmTo zs (k + 1) = bmTo zs k ||| 2 ^ (gi zs k).toNat) := rfl
      go_wp2
      go_round
      case rel => exact ⟨k + 1, by omega, by rw [Hi.out], by go_num⟩
      case measure => simp [intOf]; omega
    · obtain rfl : k = n := by omega
      go_wp2
      go_ret
      exact ⟨rfl, rfl⟩

def preR (f : M) (zs : List Int) : List Int := if codeSet f zs = 0 then sel (preIs f zs) f.p.toNat else []

theorem preR_bad {f : M} {zs : List Int} (h : codeSet f zs ≠ 0) : preR f zs = [] := by simp [preR, h]
theorem preR_good {f : M} {zs : List Int} (h : codeSet f zs = 0) : preR f zs = sel (preIs f zs) f.p.toNat := by simp [preR, h]
theorem preR_len (f : M) (zs : List Int) : (preR f zs).length < 1073741824 := by
  by_cases h : codeSet f zs = 0
  · rw [preR_good h]; have := ((isMap_iff f).1 (codeSet_zero.1 h).1).p5; have := sel_length (preIs f zs) f.p.toNat; omega
  · rw [preR_bad h]; simp

theorem ImplPre_any (f : M) (A : Option Addr) (n c : Nat) (zs : List Int) (w : World) (hx : RdI w w.heap.size A zs) (hn : zs.length = n) (hb : n < 1073741824) :
    Calls Tryz.prog 76 #[.agg (mc f), .slice A n c] w fun e w' => ∃ v, e = .returned (.tuple #[v, I (codeSet f zs)]) ∧ OwI 2 w' w.heap.size v (preR f zs) ∧ Below w.heap.size w w' := by
  have Hn := Lib.hid hn
  have Hx := Lib.hid hx
  clear hn hx
  have HX : Hid (∀ w', Below w.heap.size w w' → RdI w' w'.heap.size A zs) := fun w' hb => Rd.more (Hx.out.below hb) hb.size
  by_cases hc : codeSet f zs = 0
  · have Hr := Lib.hid (preR_good hc)
    have hv := (isMap_iff f).1 (codeSet_zero.1 hc).1
    have hp1 := hv.p1
    have hp5 := hv.p5
    have hcb : (codeSet f zs != 0) = false := by simp [hc]
    have Hc := Lib.hid hc
    clear hc
    go_enter Tryz.func76, Tryz.ntmps76
    go_wp2_with fail
    refine (setCode_any f A n c zs _ (HX.out _ (by (repeat (first | with_reducible assumption | with_reducible exact Below.refl _ _ | with_reducible refine Below.setCell ?_ (by first | omega | (simp <;> omega)) _ | with_reducible refine Below.alloc ?_ (by first | omega | (simp <;> omega)) _ | with_reducible refine Below.drew ?_ | with_reducible refine Below.drewN ?_ _)))) Hn.out hb).mono ?_
    rintro e w1 ⟨rfl, hb1⟩
    have hs : Six w1 w.heap.size f := Six.below (Blk.six ((Blk.new w _ _).alloc _)) hb1 (by simp <;> omega)
    have hq : w1.cell? ⟨w.heap.size + 1, 0, none⟩ = some (.slice A n c) := (hb1.cell (p := ⟨w.heap.size + 1, 0, none⟩) (by simp)).trans ((Blk.new' _ _ _ (by simp)).cell 0)
    have hbel : Below w.heap.size w w1 := Below.trans (by (repeat (first | with_reducible assumption | with_reducible exact Below.refl _ _ | with_reducible refine Below.setCell ?_ (by first | omega | (simp <;> omega)) _ | with_reducible refine Below.alloc ?_ (by first | omega | (simp <;> omega)) _ | with_reducible refine Below.drew ?_ | with_reducible refine Below.drewN ?_ _))) (hb1.mono (by simp <;> omega))
    have hq1 : w.heap.size + 1 < w1.heap.size := World.block_lt_of_cell? w1 ⟨w.heap.size + 1, 0, none⟩ hq
    have hwh := wherePre f (w.heap.size + 1) w.heap.size w1 (preIs f zs) hv (by
      intro w' z hb' hz
      obtain ⟨k, hk, rfl⟩ := ups_mem hz
      exact preIs_any f (w.heap.size + 1) w.heap.size k A n c zs w' (hs.below hb' hs.lt) ((hb'.cell (p := ⟨w.heap.size + 1, 0, none⟩) hq1).trans hq) (by omega) (HX.out _ (hbel.trans (hb'.mono hbel.size))) Hn.out hb)
    have Hwh := Lib.hid hwh
    clear hb1 hwh
    go_wp2_with fail
    refine Hwh.out.mono ?_
    rintro e w2 ⟨v, rfl, ho, hb2⟩
    rw [keep_sel] at ho
    have Ho := Lib.hid (ho.mono hbel.size)
    replace hbel := hbel.trans (hb2.mono hbel.size)
    clear hb2 Hwh ho
    go_wp2
    go_ret2
    exact ⟨_, by rw [Hc.out] <;> rfl, by rw [Hr.out]; exact Ho.out, hbel⟩
  · have Hr := Lib.hid (preR_bad hc)
    have hcb : (codeSet f zs != 0) = true := by simp [hc]
    clear hc
    go_enter Tryz.func76, Tryz.ntmps76
    go_wp2_with fail
    refine (setCode_any f A n c zs _ (HX.out _ (by (repeat (first | with_reducible assumption | with_reducible exact Below.refl _ _ | with_reducible refine Below.setCell ?_ (by first | omega | (simp <;> omega)) _ | with_reducible refine Below.alloc ?_ (by first | omega | (simp <;> omega)) _ | with_reducible refine Below.drew ?_ | with_reducible refine Below.drewN ?_ _)))) Hn.out hb).mono ?_
    rintro e w1 ⟨rfl, hb1⟩
    have hbel : Below w.heap.size w w1 := Below.trans (by (repeat (first | with_reducible assumption | with_reducible exact Below.refl _ _ | with_reducible refine Below.setCell ?_ (by first | omega | (simp <;> omega)) _ | with_reducible refine Below.alloc ?_ (by first | omega | (simp <;> omega)) _ | with_reducible refine Below.drew ?_ | with_reducible refine Below.drewN ?_ _))) (hb1.mono (by simp <;> omega))
    clear hb1
    go_wp2
    go_ret2
    exact ⟨_, rfl, by rw [Hr.out]; exact OwI.nil_, hbel⟩

theorem SpecPre_any (f : M) (A : Option Addr) (n c : Nat) (zs : List Int) (w : World) (hx : RdI w w.heap.size A zs) (hn : zs.length = n) (hb : n < 1073741824) :
    Calls Tryz.prog 79 #[.agg (mc f), .slice A n c] w fun e w' => ∃ v, e = .returned (.tuple #[v, I (codeSet f zs)]) ∧ OwI 2 w' w.heap.size v (preR f zs) ∧ Below w.heap.size w w' := by
  have Hn := Lib.hid hn
  have Hx := Lib.hid hx
  clear hn hx
  have HX : Hid (∀ w', Below w.heap.size w w' → RdI w' w'.heap.size A zs) := fun w' hb => Rd.more (Hx.out.below hb) hb.size
  by_cases hc : codeSet f zs = 0
  · have Hr := Lib.hid (preR_good hc)
    have hv := (isMap_iff f).1 (codeSet_zero.1 hc).1
    have hp1 := hv.p1
    have hp5 := hv.p5
    have Hd := Lib.hid (set_bd hv (codeSet_zero.1 hc).2)
    have hcb : (codeSet f zs != 0) = false := by simp [hc]
    have Hc := Lib.hid hc
    have hlt := bmTo_lt Hd.out n (by rw [Hn.out]; exact Nat.le_refl _)
    clear hc
    go_enter Tryz.func79, Tryz.ntmps79
    go_wp2_with fail
    refine (l01Set_any f A n c zs _ (HX.out _ (by (repeat (first | with_reducible assumption | with_reducible exact Below.refl _ _ | with_reducible refine Below.setCell ?_ (by first | omega | (simp <;> omega)) _ | with_reducible refine Below.alloc ?_ (by first | omega | (simp <;> omega)) _ | with_reducible refine Below.drew ?_ | with_reducible refine Below.drewN ?_ _)))) Hn.out hb).mono ?_
    rintro e w1 ⟨rfl, hb1⟩
    have hs : Six w1 w.heap.size f := Six.below (Blk.six (Blk.new w _ _)) hb1 (by simp <;> omega)
    have hbel : Below w.heap.size w w1 := Below.trans (by (repeat (first | with_reducible assumption | with_reducible exact Below.refl _ _ | with_reducible refine Below.setCell ?_ (by first | omega | (simp <;> omega)) _ | with_reducible refine Below.alloc ?_ (by first | omega | (simp <;> omega)) _ | with_reducible refine Below.drew ?_ | with_reducible refine Below.drewN ?_ _))) (hb1.mono (by simp <;> omega))
    have hl1 := hs.lt
    clear hb1
    go_wp2_with fail
    refine (l01Bits_any A n c zs _ (HX.out _ hbel) Hn.out hb Hd.out).mono ?_
    rintro e w2 ⟨rfl, rfl⟩
    go_wp2_with fail
    go_loopw [8, 9] (fun v i wr => ∃ k : Nat, (k : Int) ≤ f.p ∧ i = .int .i64 k ∧ OwI 2 wr (w.heap.size + 1) v (sel (preIs f zs) k) ∧ Six wr w.heap.size f ∧ Below w.heap.size w wr) (fun _ i _ => 5 - (intOf i).toNat)
    case atStart => exact ⟨0, by omega, rfl, OwI.mono (B := w1.heap.size) (OwI.made (Nat.le_refl _)) (by omega), hs.alloc _, hbel.alloc hbel.size _⟩
    case round =>
      clear hs hbel
      obtain ⟨k, hk, rfl, ho, hs, hbel⟩ := hrel
      obtain ⟨A', c', hv', _⟩ := ho.form
      obtain ⟨m, hm⟩ : ∃ m, m = (sel (preIs f zs) k).length := ⟨_, rfl⟩
      rw [← hm] at hv'
      subst hv'
      have Hm := Lib.hid hm
      have hm5 : m ≤ k := by rw [hm]; exact sel_length _ _
      have hsz := hbel.size
      have hsl := hs.lt
      clear hm
      by_cases hlk : (k : Int) < f.p
      · have c1 := six_at hs k (by omega)
        have b1 := hv.lo k (by omega) hlk
        have b2 := hv.hi k (by omega) hlk
        have hss := sel_succ (preIs f zs) k
        have ha := and_run (m := bmTo zs n) (k := (f.at k).toNat) hlt (by omega)
        have hbm := bm_mem Hd.out b1
        rw [Hn.out] at hbm
        rw [hbm] at ha
        have hpe : preIs f zs k = decide (f.at k ∈ zs) := by simp [preIs]
        rw [← hpe] at ha
        clear hbm hpe
        cases hq : preIs f zs k
        · rw [hq] at hss ha
          have Hss : Hid (sel (preIs f zs) (k + 1) = sel (preIs f zs) k) := by show _ = _; rw [hss]; simp
          clear hss hq
          go_wp2
          go_roundw
          case rel => exact ⟨k + 1, by omega, by go_num, by rw [Hss.out]; exact ho, hs, hbel⟩
          case measure => simp [intOf]; omega
        · rw [hq] at hss ha
          have Hss := Lib.hid hss
          clear hss hq
          go_wp2_with (at_builtin; refine wpList_pushI rfl (.tmp 34) (.tmp 36) rfl (w.heap.size + 1) (.slice A' m c') (sel (preIs f zs) k) rfl (ho.alloc _) wr.heap.size 1 k rfl ((Blk.new _ _ _).cell 0) (by rw [← Hm.out]; omega) (by simp; omega) (wr.heap.size + 1) (by simp) ?_; intro g' cap w4 ho' hgr hg' hlt')
          go_roundw
          case rel => exact ⟨k + 1, by omega, by go_num, by rw [Hss.out]; simpa [Hm.out] using ho', (hs.alloc _).grown hgr (ho.ne (by omega)), (ho.alloc _).bel (hbel.alloc hsz _) hgr (by omega) (by simp; omega)⟩
          case measure => simp [intOf]; omega
      · obtain rfl : k = f.p.toNat := by omega
        have Ho := Lib.hid (ho.mono (B' := w.heap.size) (by omega))
        clear ho
        go_wp2
        go_ret2
        exact ⟨_, by rw [Hc.out] <;> rfl, by rw [Hr.out]; exact Ho.out, hbel⟩
  · have Hr := Lib.hid (preR_bad hc)
    have hcb : (codeSet f zs != 0) = true := by simp [hc]
    clear hc
    go_enter Tryz.func79, Tryz.ntmps79
    go_wp2_with fail
    refine (l01Set_any f A n c zs _ (HX.out _ (by (repeat (first | with_reducible assumption | with_reducible exact Below.refl _ _ | with_reducible refine Below.setCell ?_ (by first | omega | (simp <;> omega)) _ | with_reducible refine Below.alloc ?_ (by first | omega | (simp <;> omega)) _ | with_reducible refine Below.drew ?_ | with_reducible refine Below.drewN ?_ _)))) Hn.out hb).mono ?_
    rintro e w1 ⟨rfl, hb1⟩
    have hbel : Below w.heap.size w w1 := Below.trans (by (repeat (first | with_reducible assumption | with_reducible exact Below.refl _ _ | with_reducible refine Below.setCell ?_ (by first | omega | (simp <;> omega)) _ | with_reducible refine Below.alloc ?_ (by first | omega | (simp <;> omega)) _ | with_reducible refine Below.drew ?_ | with_reducible refine Below.drewN ?_ _))) (hb1.mono (by simp <;> omega))
    clear hb1
    go_wp2
    go_ret2
    exact ⟨_, rfl, by rw [Hr.out]; exact OwI.nil_, hbel⟩

end Go.Proofs.YtkbfocoaobiijaaGreat

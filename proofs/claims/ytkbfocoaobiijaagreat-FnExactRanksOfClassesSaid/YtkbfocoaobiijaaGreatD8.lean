/- Contracts of the images of sets; no conditions beyond those that each theorem states. -/
import Derived.Test.YtkbfocoaobiijaaGreatD6
import Derived.Test.YtkbfocoaobiijaaGreatD7
import Derived.Test.YtkbfocoaobiijaaGreatReg
namespace Go.Proofs.YtkbfocoaobiijaaGreat
open Go.RowKit
set_option maxRecDepth 100000

theorem set_up {p : Int} {zs : List Int} (hs : isSetB p zs = true) : ∀ j, j < zs.length → (j : Int) ≤ gi zs j ∧ gi zs j < p := by
  intro j
  induction j with
  | zero =>
    intro hj
    have := isSetB_iff.1 hs 0 hj
    unfold okAt at this
    rw [Bool.and_eq_true] at this
    have := inR_true.1 this.1
    omega
  | succ j ih =>
    intro hj
    have h := isSetB_iff.1 hs (j + 1) hj
    unfold okAt at h
    rw [Bool.and_eq_true, Bool.or_eq_true] at h
    have h1 := inR_true.1 h.1
    have h2 := ih (by omega)
    have h3 : gi zs j < gi zs (j + 1) := by
      rcases h.2 with h | h
      · simp at h
      · simpa using h
    omega
theorem set_len {f : M} {zs : List Int} (hv : Valid f) (hs : isSetB f.p zs = true) : zs.length ≤ 5 := by
  have h5 := hv.p5
  rcases Nat.lt_or_ge 5 zs.length with h | h
  · have := set_up hs 5 h; omega
  · exact h
theorem img_pts {f : M} {zs : List Int} (hv : Valid f) (hs : isSetB f.p zs = true) : pts (mv f (bmTo zs zs.length) f.p.toNat) = sel (imQ f zs) 5 := by
  have h5 := hv.p5
  have hlt := mv_lt hv (bmTo zs zs.length) f.p.toNat (by have := hv.p1; omega)
  rw [pts, sel_far (n := 5) (by omega) fun k h1 _ => bit_far hlt h1]
  refine sel_ext fun k hk => ?_
  rw [Bool.eq_iff_iff, bq_nat, mv_bit, imQ, decide_eq_true_eq, led, List.mem_map]
  constructor
  · rintro ⟨i, hi, hb, e⟩
    rw [bmTo_bit] at hb
    obtain ⟨j, hj, ej⟩ := hb
    have hu := set_up hs j hj
    have b1 := hv.lo i (by omega) (by omega)
    exact ⟨gi zs j, gi_mem hj, by rw [ej]; omega⟩
  · rintro ⟨z, hz, e⟩
    obtain ⟨j, hj, ej⟩ := List.getElem_of_mem hz
    have hu := set_up hs j hj
    rw [gi_eq hj, ej] at hu
    refine ⟨z.toNat, by omega, ?_, by rw [e]; simp⟩
    rw [bmTo_bit]
    exact ⟨j, hj, by rw [gi_eq hj, ej]⟩

def imgSR (f : M) (zs : List Int) : List Int := if codeSet f zs = 0 then sel (imQ f zs) 5 else []

theorem imgSR_bad {f : M} {zs : List Int} (h : codeSet f zs ≠ 0) : imgSR f zs = [] := by simp [imgSR, h]
theorem imgSR_good {f : M} {zs : List Int} (h : codeSet f zs = 0) : imgSR f zs = sel (imQ f zs) 5 := by simp [imgSR, h]
theorem imgSR_len (f : M) (zs : List Int) : (imgSR f zs).length < 1073741824 := by
  by_cases h : codeSet f zs = 0
  · rw [imgSR_good h]; have := sel_length (imQ f zs) 5; omega
  · rw [imgSR_bad h]; simp

theorem ImplImg_any (f : M) (A : Option Addr) (n c : Nat) (zs : List Int) (w : World) (hx : RdI w w.heap.size A zs) (hn : zs.length = n) (hb : n < 1073741824) :
    Calls Tryz.prog 74 #[.agg (mc f), .slice A n c] w fun e w' => ∃ v, e = .returned (.tuple #[v, I (codeSet f zs)]) ∧ OwI 2 w' w.heap.size v (imgSR f zs) ∧ Below w.heap.size w w' := by
  have Hn := Lib.hid hn
  have Hx := Lib.hid hx
  clear hn hx
  have HX : Hid (∀ w', Below w.heap.size w w' → RdI w' w'.heap.size A zs) := fun w' hb => Rd.more (Hx.out.below hb) hb.size
  by_cases hc : codeSet f zs = 0
  · have Hr := Lib.hid (imgSR_good hc)
    have hv := (isMap_iff f).1 (codeSet_zero.1 hc).1
    have Hl := Lib.hid (set_len hv (codeSet_zero.1 hc).2)
    have Hu := Lib.hid (set_up (codeSet_zero.1 hc).2)
    have hcb : (codeSet f zs != 0) = false := by simp [hc]
    have Hc := Lib.hid hc
    clear hc
    go_enter Tryz.func74, Tryz.ntmps74
    go_wp2_with fail
    refine (setCode_any f A n c zs _ (HX.out _ (by (repeat (first | with_reducible assumption | with_reducible exact Below.refl _ _ | with_reducible refine Below.setCell ?_ (by first | omega | (simp <;> omega)) _ | with_reducible refine Below.alloc ?_ (by first | omega | (simp <;> omega)) _ | with_reducible refine Below.drew ?_ | with_reducible refine Below.drewN ?_ _)))) Hn.out hb).mono ?_
    rintro e w1 ⟨rfl, hb1⟩
    have hs : Six w1 w.heap.size f := Six.below (Blk.six (Blk.new w _ _)) hb1 (by simp <;> omega)
    have hbel : Below w.heap.size w w1 := Below.trans (by (repeat (first | with_reducible assumption | with_reducible exact Below.refl _ _ | with_reducible refine Below.setCell ?_ (by first | omega | (simp <;> omega)) _ | with_reducible refine Below.alloc ?_ (by first | omega | (simp <;> omega)) _ | with_reducible refine Below.drew ?_ | with_reducible refine Below.drewN ?_ _))) (hb1.mono (by simp <;> omega))
    clear hb1
    go_wp2_with fail
    refine (image_any f A n c zs _ hv (HX.out _ hbel) Hn.out (by have := Hl.out; rw [Hn.out] at this; omega) (fun j hj => by have := Hu.out j hj; omega)).mono ?_
    rintro e w2 ⟨v, rfl, ho, hb2⟩
    have Ho := Lib.hid (ho.mono hbel.size)
    replace hbel := hbel.trans (hb2.mono hbel.size)
    clear hb2 ho
    go_wp2
    go_ret2
    exact ⟨_, by rw [Hc.out] <;> rfl, by rw [Hr.out]; exact Ho.out, hbel⟩
  · have Hr := Lib.hid (imgSR_bad hc)
    have hcb : (codeSet f zs != 0) = true := by simp [hc]
    clear hc
    go_enter Tryz.func74, Tryz.ntmps74
    go_wp2_with fail
    refine (setCode_any f A n c zs _ (HX.out _ (by (repeat (first | with_reducible assumption | with_reducible exact Below.refl _ _ | with_reducible refine Below.setCell ?_ (by first | omega | (simp <;> omega)) _ | with_reducible refine Below.alloc ?_ (by first | omega | (simp <;> omega)) _ | with_reducible refine Below.drew ?_ | with_reducible refine Below.drewN ?_ _)))) Hn.out hb).mono ?_
    rintro e w1 ⟨rfl, hb1⟩
    have hbel : Below w.heap.size w w1 := Below.trans (by (repeat (first | with_reducible assumption | with_reducible exact Below.refl _ _ | with_reducible refine Below.setCell ?_ (by first | omega | (simp <;> omega)) _ | with_reducible refine Below.alloc ?_ (by first | omega | (simp <;> omega)) _ | with_reducible refine Below.drew ?_ | with_reducible refine Below.drewN ?_ _))) (hb1.mono (by simp <;> omega))
    clear hb1
    go_wp2
    go_ret2
    exact ⟨_, rfl, by rw [Hr.out]; exact OwI.nil_, hbel⟩

theorem bits_b (A : Option Addr) (n c : Nat) (zs : List Int) (w : World) (hx : RdI w w.heap.size A zs) (hn : zs.length = n) (hb : n < 1073741824) (hbd : ∀ j, j < zs.length → 0 ≤ gi zs j ∧ gi zs j < 5) :
    Calls Tryz.prog 188 #[.slice A n c] w fun e w' => e = .returned (I (bmTo zs n)) ∧ Below w.heap.size w w' :=
  (l01Bits_any A n c zs w hx hn hb hbd).mono fun _ _ h => ⟨h.1, h.2 ▸ Below.refl _ _⟩

theorem val_same {x0 x1 x2 x3 x5 x6 x7 x8 x9 x10 x11 x12 x13 x14 x15 x16 v v' : Value} {t : Nat} (h17 : t ≠ 17) (h4 : t ≠ 4) :
    (#[x0, x1, x2, x3, v', x5, x6, x7, x8, x9, x10, x11, x12, x13, x14, x15, x16, v'] : Array Value).getD t undef = (#[x0, x1, x2, x3, v, x5, x6, x7, x8, x9, x10, x11, x12, x13, x14, x15, x16, v] : Array Value).getD t undef := by
  have e : (#[x0, x1, x2, x3, v', x5, x6, x7, x8, x9, x10, x11, x12, x13, x14, x15, x16, v'] : Array Value) = ((#[x0, x1, x2, x3, v, x5, x6, x7, x8, x9, x10, x11, x12, x13, x14, x15, x16, v] : Array Value).setIfInBounds 17 v').setIfInBounds 4 v' := rfl
  rw [e]
  simp only [Array.getD_eq_getD_getElem?]
  rw [Array.getElem?_setIfInBounds_ne (Ne.symm h4), Array.getElem?_setIfInBounds_ne (Ne.symm h17)]

theorem SpecImg_any (f : M) (A : Option Addr) (n c : Nat) (zs : List Int) (w : World) (hx : RdI w w.heap.size A zs) (hn : zs.length = n) (hb : n < 1073741824) :
    Calls Tryz.prog 75 #[.agg (mc f), .slice A n c] w fun e w' => ∃ v, e = .returned (.tuple #[v, I (codeSet f zs)]) ∧ OwI 2 w' w.heap.size v (imgSR f zs) ∧ Below w.heap.size w w' := by
  have Hn := Lib.hid hn
  have Hx := Lib.hid hx
  clear hn hx
  have HX : Hid (∀ w', Below w.heap.size w w' → RdI w' w'.heap.size A zs) := fun w' hb => Rd.more (Hx.out.below hb) hb.size
  by_cases hc : codeSet f zs = 0
  · have hv := (isMap_iff f).1 (codeSet_zero.1 hc).1
    have Hd := Lib.hid (set_bd hv (codeSet_zero.1 hc).2)
    have Hr : Hid (imgSR f zs = pts (mv f (bmTo zs n) f.p.toNat)) := by
      have := img_pts hv (codeSet_zero.1 hc).2
      rw [Hn.out] at this
      exact (imgSR_good hc).trans this.symm
    have hm := bmTo_lt Hd.out n (by rw [Hn.out]; exact Nat.le_refl _)
    have hm2 := mv_lt hv (bmTo zs n) f.p.toNat (by have := hv.p1; omega)
    have hcb : (codeSet f zs != 0) = false := by simp [hc]
    have Hc := Lib.hid hc
    clear hc
    go_enter Tryz.func75, Tryz.ntmps75
    go_wp2_with fail
    refine (l01Set_any f A n c zs _ (HX.out _ (by (repeat (first | with_reducible assumption | with_reducible exact Below.refl _ _ | with_reducible refine Below.setCell ?_ (by first | omega | (simp <;> omega)) _ | with_reducible refine Below.alloc ?_ (by first | omega | (simp <;> omega)) _ | with_reducible refine Below.drew ?_ | with_reducible refine Below.drewN ?_ _)))) Hn.out hb).mono ?_
    rintro e w1 ⟨rfl, hb1⟩
    have hs : Six w1 w.heap.size f := Six.below (Blk.six (Blk.new w _ _)) hb1 (by simp <;> omega)
    have hbel : Below w.heap.size w w1 := Below.trans (by (repeat (first | with_reducible assumption | with_reducible exact Below.refl _ _ | with_reducible refine Below.setCell ?_ (by first | omega | (simp <;> omega)) _ | with_reducible refine Below.alloc ?_ (by first | omega | (simp <;> omega)) _ | with_reducible refine Below.drew ?_ | with_reducible refine Below.drewN ?_ _))) (hb1.mono (by simp <;> omega))
    have HS : Hid (Six w1.drew w.heap.size f ∧ Below w.heap.size w w1.drew) := ⟨hs, hbel.drew⟩
    clear hb1 hs hbel
    go_wp2_with fail
    refine wp_region_val [] rfl (by kernel_rfl) (by kernel_rfl) (by kernel_rfl) (fun w' => Six w' w.heap.size f ∧ Below w.heap.size w w') (fun v w' => OwI 2 w' w.heap.size v (pts (mv f (bmTo zs n) f.p.toNat))) _
      (fun v => [.agg (mc f), .slice A n c, I (bmTo zs n), I (mv f (bmTo zs n) f.p.toNat), v, v, I 0])
      (by intro v; simp only [putAll, List.setIfInBounds_toArray, List.set_cons_succ, List.set_cons_zero]; rfl) HS.out 4 _ rfl ?hpend ?hR ?hop ?hval ?hQ
    case hpend =>
      intro v v' t hne
      by_cases h17 : t = 17
      · subst h17; exact .inl rfl
      · by_cases h4 : t = 4
        · subst h4; exact .inr ⟨5, _, rfl, rfl, by decide, by kernel_rfl⟩
        · refine (hne ?_).elim
          exact val_same h17 h4
    case hR => intro v w' w'' h1 h2; exact OwI.below h1 h2 (Nat.le_refl _)
    case hop =>
      intro v
      refine ⟨.inr ?_, .inr ?_, .inr ?_, .inr ?_, .inl rfl, .inr ?_, .inr ?_, trivial⟩
      · (with_reducible refine Fix.of ?_ ?_; rfl; intro w' hS; have s0 := hS.1; unfold Oper.wp; go_simp; first | done | exact Below.refl _ _ | exact ⟨hS, Below.refl _ _⟩ | exact ⟨hS.2, Below.refl _ _⟩ | exact ⟨hS.1, Below.refl _ _⟩ | exact ⟨⟨hS.1⟩, Below.refl _ _⟩ | exact ⟨hS.1, hS.2, Below.refl _ _⟩)
      · (with_reducible refine Fix.of ?_ ?_; rfl; intro w' hS; have s0 := hS.1; unfold Oper.wp; go_simp; first | done | exact Below.refl _ _ | exact ⟨hS, Below.refl _ _⟩ | exact ⟨hS.2, Below.refl _ _⟩ | exact ⟨hS.1, Below.refl _ _⟩ | exact ⟨⟨hS.1⟩, Below.refl _ _⟩ | exact ⟨hS.1, hS.2, Below.refl _ _⟩)
      · (with_reducible refine Fix.of ?_ ?_; rfl; intro w' hS; have s3 := Lib.hid hS; unfold Oper.wp; clear hS; go_simp; refine (bits_b A n c zs _ (HX.out _ s3.out.2) Hn.out hb Hd.out).mono ?_; rintro e w1 ⟨rfl, hb⟩; exact ⟨rfl, ⟨s3.out.1.below hb s3.out.1.lt, s3.out.2.trans (hb.mono s3.out.2.size)⟩, hb⟩)
      · (with_reducible refine Fix.of ?_ ?_; rfl; intro w' hS; have s3 := Lib.hid hS; unfold Oper.wp; clear hS; go_simp; refine (l01Moved_any f (bmTo zs n) _ hv hm).mono ?_; rintro e w1 ⟨rfl, hb⟩; exact ⟨rfl, ⟨s3.out.1.below hb s3.out.1.lt, s3.out.2.trans (hb.mono s3.out.2.size)⟩, hb⟩)
      · (with_reducible refine Fix.of ?_ ?_; rfl; intro w' hS; have s0 := hS.1; unfold Oper.wp; go_simp; first | done | exact Below.refl _ _ | exact ⟨hS, Below.refl _ _⟩ | exact ⟨hS.2, Below.refl _ _⟩ | exact ⟨hS.1, Below.refl _ _⟩ | exact ⟨⟨hS.1⟩, Below.refl _ _⟩ | exact ⟨hS.1, hS.2, Below.refl _ _⟩)
      · (with_reducible refine Fix.of ?_ ?_; rfl; intro w' hS; have s0 := hS.1; unfold Oper.wp; go_simp; first | done | exact Below.refl _ _ | exact ⟨hS, Below.refl _ _⟩ | exact ⟨hS.2, Below.refl _ _⟩ | exact ⟨hS.1, Below.refl _ _⟩ | exact ⟨⟨hS.1⟩, Below.refl _ _⟩ | exact ⟨hS.1, hS.2, Below.refl _ _⟩)
    case hval =>
      intro v
      refine ⟨rfl, fun w' hS => ?_⟩
      have s3 := Lib.hid hS
      clear hS
      unfold Oper.wp
      go_simp
      refine (l01Points_any _ _ hm2).mono ?_
      rintro e w2 ⟨v', rfl, ho, hb2⟩
      exact ⟨⟨s3.out.1.below hb2 s3.out.1.lt, s3.out.2.trans (hb2.mono s3.out.2.size)⟩, ho.mono s3.out.2.size, hb2⟩
    case hQ =>
      intro v w' hS ho hbel
      have Ho := Lib.hid ho
      have Hb := Lib.hid hS.2
      clear hS ho hbel HS
      go_wp2
      go_ret2
      exact ⟨_, by rw [Hc.out] <;> rfl, by rw [Hr.out]; exact Ho.out, Hb.out⟩
  · have Hr := Lib.hid (imgSR_bad hc)
    have hcb : (codeSet f zs != 0) = true := by simp [hc]
    clear hc
    go_enter Tryz.func75, Tryz.ntmps75
    go_wp2_with fail
    refine (l01Set_any f A n c zs _ (HX.out _ (by (repeat (first | with_reducible assumption | with_reducible exact Below.refl _ _ | with_reducible refine Below.setCell ?_ (by first | omega | (simp <;> omega)) _ | with_reducible refine Below.alloc ?_ (by first | omega | (simp <;> omega)) _ | with_reducible refine Below.drew ?_ | with_reducible refine Below.drewN ?_ _)))) Hn.out hb).mono ?_
    rintro e w1 ⟨rfl, hb1⟩
    have hbel : Below w.heap.size w w1 := Below.trans (by (repeat (first | with_reducible assumption | with_reducible exact Below.refl _ _ | with_reducible refine Below.setCell ?_ (by first | omega | (simp <;> omega)) _ | with_reducible refine Below.alloc ?_ (by first | omega | (simp <;> omega)) _ | with_reducible refine Below.drew ?_ | with_reducible refine Below.drewN ?_ _))) (hb1.mono (by simp <;> omega))
    clear hb1
    go_wp2
    go_ret2
    exact ⟨_, rfl, by rw [Hr.out]; exact OwI.nil_, hbel⟩

end Go.Proofs.YtkbfocoaobiijaaGreat

/- Contracts of elementsThat and of the program's lists of elements that are such; the lists are as each theorem states. -/
import Derived.Test.YtknknljkmkfmoaaN18
import Derived.Test.YtknknljkmkfmoaaC3
namespace Go.Proofs.Ytknknljkmkfmoaa
open Go.RowKit
set_option maxRecDepth 100000
set_option linter.unusedSimpArgs false

/-- the elements whose places are such -/
def thatE (p : Nat → Bool) (E : List M) : List M := ((List.range E.length).filter p).map (gm E)
def thatR (p : List M → Nat → Bool) (ms : List M) : List M := thatE (p (elR ms [])) (elR ms [])
theorem range_gm' (E : List M) : (List.range E.length).map (gm E) = E := by
  refine List.ext_getElem (by simp) fun i h1 h2 => ?_
  simp [gm_eq h2]
theorem thatE_filter (P : M → Bool) (E : List M) : thatE (fun i => P (gm E i)) E = E.filter P := by
  unfold thatE
  conv => rhs; rw [← range_gm' E]
  rw [List.filter_map]
  rfl
theorem thatE_congr {p q : Nat → Bool} {E : List M} (h : ∀ i, i < E.length → p i = q i) : thatE p E = thatE q E := by
  unfold thatE
  congr 1
  exact List.filter_congr fun i hi => h i (List.mem_range.1 hi)

theorem et1_any (F : Nat) (caps : Array Value) (b1 b2 g i : Nat) (q : Bool) (w : World) (eg : ∀ args w, (callFunc F args).run Try.prog w = .ok (.enter F args) w)
    (hF : Calls Try.prog F (#[.pointer (some ⟨g, 0, none⟩), I i] ++ caps) w fun e w2 => e = .returned (.bool q) ∧ Below w.heap.size w w2)
    (c1 : w.cell? ⟨b1, 0, none⟩ = some (.func (.func F) #[] caps)) (c2 : w.cell? ⟨b2, 0, none⟩ = some (.pointer (some ⟨g, 0, none⟩))) :
    Calls Try.prog 146 #[I i, .pointer (some ⟨b1, 0, none⟩), .pointer (some ⟨b2, 0, none⟩)] w fun e w' => e = .returned (.bool q) ∧ Below w.heap.size w w' := by
  have HF := Lib.hid hF
  clear hF
  go_enter Try.func146, Try.ntmps146
  go_wp2_with fail
  refine HF.out.mono ?_
  rintro e w1 ⟨rfl, hb1⟩
  go_wp2
  go_ret
  exact ⟨rfl, hb1⟩

theorem elementsThat_any (A : Option Addr) (n c : Nat) (ms : List M) (F : Nat) (caps : Array Value) (p : List M → Nat → Bool) (w : World) (hx : RdM w w.heap.size A ms) (hn : ms.length = n) (hA : A = none → n = 0 ∧ c = 0) (hb : n < 536870912)
    (eg : ∀ args w, (callFunc F args).run Try.prog w = .ok (.enter F args) w)
    (hF : ∀ E ps, El ms [] E ps → ∀ B g us w1, MonAt (gm ms 0).p B g E us w1 → Below w.heap.size w w1 → ∀ i, i < E.length → Calls Try.prog F (#[.pointer (some ⟨g, 0, none⟩), I i] ++ caps) w1 fun e w2 => e = .returned (.bool (p E i)) ∧ Below w1.heap.size w1 w2) :
    Calls Try.prog 92 #[.slice A n c, .func (.func F) #[] caps] w (RetM (thatR p ms) (elC ms []) w) := by
  obtain ⟨wb, hwb⟩ : ∃ wb, wb = w.alloc (.cells #[.func (.func F) #[] caps] 81) := ⟨_, rfl⟩
  have hbb : Below w.heap.size w wb := by rw [hwb]; exact (Below.refl _ _).alloc (Nat.le_refl _) _
  have c1 : wb.cell? ⟨w.heap.size, 0, none⟩ = some (.func (.func F) #[] caps) := by rw [hwb]; exact (Blk.new w _ _).cell 0
  have l1 := World.block_lt_of_cell? wb ⟨w.heap.size, 0, none⟩ c1
  have Hx := Lib.hid (Rd.more (Rd.below hx hbb) hbb.size)
  have Hn := Lib.hid hn
  have HA := Lib.hid hA
  have Hbb := Lib.hid hbb
  have Hwb := Lib.hid hwb
  have HF := Lib.hid hF
  have C1 := Lib.hid c1
  have Heg := Lib.hid eg
  have hcc := monC_nil ms
  clear hx hn hA hbb hwb hF c1 eg
  by_cases hc : elC ms [] = 0
  · obtain ⟨E, ps, hE⟩ := elC_el hc
    have HE := Lib.hid hE
    have hlen := hE.len
    have hpos := hE.pos
    rw [hc] at hcc
    have Hc := Lib.hid hc
    have Hcc := Lib.hid hcc
    clear hE hc hcc
    go_enter Try.func92, Try.ntmps92
    go_wp2_with fail
    rw [← Hwb.out]
    refine (monoidOf_any A none n c 0 0 ms [] wb Hx.out Rd.nil_ Hn.out rfl HA.out (fun _ => ⟨rfl, rfl⟩) (by omega)).mono ?_
    rintro e w1 ⟨r, v, rfl, hb1, hr0, hs⟩
    obtain ⟨g, rfl, hM, _⟩ := hs ps HE.out.clo Hcc.out
    rw [← HE.out.eq] at hM
    rw [Hcc.out]
    obtain ⟨w2, hw2⟩ : ∃ w2, w2 = w1.alloc (.cells #[.pointer (some ⟨g, 0, none⟩)] 63) := ⟨_, rfl⟩
    have h12 : Below w1.heap.size w1 w2 := by rw [hw2]; exact (Below.refl _ _).alloc (Nat.le_refl _) _
    have c2 : w2.cell? ⟨w1.heap.size, 0, none⟩ = some (.pointer (some ⟨g, 0, none⟩)) := by rw [hw2]; exact (Blk.new w1 _ _).cell 0
    have l2 := World.block_lt_of_cell? w2 ⟨w1.heap.size, 0, none⟩ c2
    have hb2 : Below wb.heap.size wb w2 := hb1.trans (h12.mono hb1.size)
    have c3 := (hb2.cell (p := ⟨w.heap.size, 0, none⟩) l1).trans C1.out
    have l3 := World.block_lt_of_cell? w2 ⟨w.heap.size, 0, none⟩ c3
    have HP : Hid (PredC 146 #[.pointer (some ⟨w.heap.size, 0, none⟩), .pointer (some ⟨w1.heap.size, 0, none⟩)] E.length (p E) w2) :=
      ⟨enters_of Try.func146 (by kernel_rfl) rfl, fun w' hb' i hi => et1_any F caps _ _ g i (p E i) w' Heg.out (HF.out E ps HE.out _ g _ w' (hM.below (h12.trans (hb'.mono h12.size)) (Nat.le_refl _)) (Hbb.out.trans ((hb2.trans (hb'.mono hb2.size)).mono Hbb.out.size)) i hi) ((hb'.cell l3).trans c3) ((hb'.cell l2).trans c2)⟩
    have HM := Lib.hid (hM.below h12 (Nat.le_refl _))
    have Hb2 := Lib.hid (Hbb.out.trans (hb2.mono Hbb.out.size))
    have Hw2 := Lib.hid hw2
    have hsz := hb2.size
    clear hM hs hb1 hr0 hw2 h12 l2 hb2 c3 l3
    go_wp2_with fail
    rw [← Hw2.out]
    clear Hw2
    refine (only_any _ _ (p E) w2 HM.out hlen hpos HP.out).mono ?_
    rintro e w3 ⟨v', rfl, ho, hb3⟩
    have hR : thatR p ms = thatE (p E) E := by unfold thatR; rw [HE.out.r]
    have Ho : Hid (OwM 31 w3 w.heap.size v' (thatR p ms)) := by show OwM _ _ _ _ _; rw [hR]; exact ho.mono Hb2.out.size
    have Hb3 := Lib.hid (Hb2.out.trans (hb3.mono Hb2.out.size))
    obtain ⟨A', c', e', _⟩ := ho.form
    obtain ⟨k, hk⟩ : ∃ k, k = (((List.range E.length).filter (p E)).map (gm E)).length := ⟨_, rfl⟩
    rw [← hk] at e'
    subst e'
    clear ho hb3 hR hk
    go_wp2
    go_ret2
    exact .mk _ (by rw [Hc.out] <;> rfl) Ho.out Hb3.out
  · have hR : thatR p ms = [] := by unfold thatR; rw [elR_bad hc]; rfl
    have HR := Lib.hid hR
    have Hcc := Lib.hid hcc
    obtain ⟨p0, p4⟩ := elC_p hc
    have hne : (elC ms [] != 0) = true := by simpa using hc
    clear hc hcc hR
    go_enter Try.func92, Try.ntmps92
    go_wp2_with fail
    rw [← Hwb.out]
    refine (monoidOf_any A none n c 0 0 ms [] wb Hx.out Rd.nil_ Hn.out rfl HA.out (fun _ => ⟨rfl, rfl⟩) (by omega)).mono ?_
    rintro e w1 ⟨r, v, rfl, hb1, hr0, hs⟩
    have hne0 : monC ms [] ≠ 0 := by rw [Hcc.out]; omega
    obtain rfl := hr0 hne0
    clear hne0
    rw [Hcc.out]
    have Hb := Lib.hid (Hbb.out.trans (hb1.mono Hbb.out.size))
    clear hb1 hs
    go_wp2
    go_ret2
    exact .mk _ rfl (by rw [HR.out]; exact OwM.nil_) ((Hb.out).alloc Hb.out.size _)
end Go.Proofs.Ytknknljkmkfmoaa

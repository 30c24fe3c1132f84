/- Contracts of the source's beginning and of a pick; no conditions beyond those that each theorem states. -/
import Derived.Test.YtkbfocoaobiijaaDR1
namespace Go.Proofs.Ytkbfocoaobiijaa
open Go.RowKit
set_option maxRecDepth 100000
set_option linter.unusedSimpArgs false
set_option linter.unusedVariables false

def RetK (s : Nat) (A : Option Addr) (n c : Nat) (zs : List Int) (ls : List Int) (w : World) (e : Ending) (w' : World) : Prop := ∃ r : Int, e = .returned (I r) ∧ r ∈ ls ∧ Src w' s A n c zs ∧ w.grownBy w' (some s)
theorem pick_any {s : Nat} {A : Option Addr} {n c : Nat} {zs : List Int} (g k ck : Nat) (ls : List Int) (w : World) (hS : Src w s A n c zs) (ho : OwI 2 w (s + 1) (.slice (some ⟨g, 0, none⟩) k ck) ls) (hl : ls.length = k) (h1 : 1 ≤ k) (hk : k ≤ 300) :
    Calls Try.prog 36 #[.pointer (some ⟨s, 0, none⟩), .slice (some ⟨g, 0, none⟩) k ck] w (RetK s A n c zs ls w) := by
  have HS := Lib.hid hS
  have Ho := Lib.hid ho
  have Hl := Lib.hid hl
  clear hS ho hl
  go_enter Try.func36, Try.ntmps36
  go_wp2_with fail
  refine (next_any k w HS.out).mono ?_
  rintro e w1 ⟨r, rfl, hr, _, hS1, hg1⟩
  obtain ⟨hr0, hrk⟩ := hr (by omega)
  obtain ⟨j, hj⟩ : ∃ j : Nat, (j : Int) = r := ⟨r.toNat, by omega⟩
  have hjk : j < k := by omega
  have hjz : (j : Int) < (k : Int) := by omega
  subst hj
  have ho1 := OwI.keep Ho.out (fun q hq => hg1.block q (Ho.out.lt q hq).2 (by have := (Ho.out.lt q hq).1; intro e; injection e with e; omega))
  obtain ⟨c0, _⟩ := OwI.spotAt ho1 (k := j) (by rw [Hl.out]; exact hjk)
  have HS1 := Lib.hid hS1
  have Hg1 := Lib.hid hg1
  have Hm : Hid (gi ls j ∈ ls) := by
    show gi ls j ∈ ls
    unfold gi
    rw [List.getD_eq_getElem?_getD, List.getElem?_eq_getElem (by rw [Hl.out]; exact hjk)]
    exact List.getElem_mem _
  obtain ⟨x, hx⟩ : ∃ x, x = gi ls j := ⟨_, rfl⟩
  rw [← hx] at c0 Hm
  clear hr hS1 hg1 ho1 hx
  go_wp2_with fail
  go_ret
  exact ⟨x, rfl, Hm.out, HS1.out, Hg1.out⟩

def RetF (A : Option Addr) (n c : Nat) (zs : List Int) (w : World) (e : Ending) (w' : World) : Prop := ∃ s, e = .returned (.pointer (some ⟨s, 0, none⟩)) ∧ w.heap.size ≤ s ∧ Src w' s A n c zs ∧ Below w.heap.size w w'
set_option maxHeartbeats 2000000 in
theorem from_any {A : Option Addr} {n c : Nat} {zs : List Int} (w : World) (hx : RdU w w.heap.size A zs) (hn : zs.length = n) (hb : n < 4611686018427387904) :
    Calls Try.prog 34 #[.slice A n c] w (RetF A n c zs w) := by
  obtain ⟨h0, e0, hh0⟩ := u64_some (13591 + (n : Int))
  have Hx := Lib.hid hx
  have Hn := Lib.hid hn
  have Hnb := Lib.hid hb
  have e9 : IntKind.u64.wrap (n : Int) = (n : Int) := IntWalk.u64_in _ ⟨by omega, by omega⟩
  have Hh0 := Lib.hid hh0
  clear hx hn hb hh0
  go_enter Try.func34, Try.ntmps34
  go_wp2_with fail
  obtain ⟨s, hs⟩ : ∃ s, s = w.heap.size := ⟨_, rfl⟩
  obtain ⟨wb, hwb⟩ : ∃ wb, wb = w.alloc (.cells #[.slice A n c, I 0, .int .u64 h0] TSrc) := ⟨_, rfl⟩
  have HS0 : Hid (Src wb s A n c zs) := by
    show Src _ _ _ _ _ _
    rw [hwb, hs]
    exact ⟨⟨0, h0, Nat.zero_le _, Hh0.out, Blk.new w _ _⟩, Hx.out.below ((Below.refl _ _).alloc (Nat.le_refl _) _), Hn.out, Hnb.out⟩
  have Hb0 : Hid (Below w.heap.size w wb) := by show Below _ _ _; rw [hwb]; exact (Below.refl _ _).alloc (Nat.le_refl _) _
  have Hs := Lib.hid hs
  rw [← hs, ← hwb]
  clear hwb hs e0 e9
  go_loopw [4] (fun t wr => ∃ i : Nat, t = .int .i64 i ∧ i ≤ n ∧ Src wr s A n c zs ∧ Below w.heap.size w wr) (fun t _ => n - (intOf t).toNat)
  case atStart => exact ⟨0, rfl, Nat.zero_le _, HS0.out, Hb0.out⟩
  case round =>
    clear HS0 Hb0
    obtain ⟨i, rfl, hi, hS, hb⟩ := hrel
    have HS := Lib.hid hS
    have Hb := Lib.hid hb
    clear hS hb
    by_cases hin : i < n
    · have hiz : (i : Int) < (n : Int) := by omega
      by_cases h4 : i < 4096
      · have h4z : (i : Int) < 4096 := by omega
        obtain ⟨a, h, ha, hh, hbl⟩ := HS.out.blk
        obtain ⟨m1, f1, hm1⟩ := u64_some ((h : Int) * 1099511628211)
        obtain ⟨b, off, rfl, hbs, hcz⟩ := HS.out.code.at_ (k := i) (by rw [Hn.out]; exact hin)
        have hzv := HS.out.code.val (k := i) (by rw [Hn.out]; exact hin)
        obtain ⟨z, hz⟩ : ∃ z, z = gi zs i := ⟨_, rfl⟩
        rw [← hz] at hcz hzv
        obtain ⟨m2, f2, hm2⟩ := u64_some ((m1 : Int) + z)
        obtain ⟨m3, f3, hm3⟩ := u64_some ((m2 : Int) + 181)
        have f4 : IntKind.u64.wrap z = z := IntWalk.u64_in _ ⟨by omega, by omega⟩
        have ls := hbl.lt
        have lb : b < wr.heap.size := by omega
        have Hbl := Lib.hid hbl
        have Hcz := Lib.hid hcz
        have Hm3 := Lib.hid hm3
        have Ha := Lib.hid ha
        clear hbl hcz hz hh hm1 hm2 hm3 ha hzv
        go_wp2_with fail
        refine wp_region_last [] rfl (by kernel_rfl) (by kernel_rfl) (by kernel_rfl) (by kernel_rfl) (fun w' => Below wr.heap.size wr w')
          (fun w' => ∃ w3, Below wr.heap.size wr w3 ∧ w' = w3.setCell ⟨s, 2, none⟩ (.int .u64 m3)) _
          [.pointer (some ⟨s, 0, none⟩), .pointer (some ⟨s, 0, none⟩), .pointer (some ⟨s, 0, none⟩), .pointer (some ⟨s, 2, none⟩), .int .u64 h, .int .u64 m1, .slice (some ⟨b, off, none⟩) n c, I i, .pointer (some ⟨b, off + i, none⟩), .int .u8 z, .int .u64 z, .int .u64 m2, .int .u64 m3, .pointer (some ⟨s, 0, none⟩), .pointer (some ⟨s, 2, none⟩), undef]
          (by simp only [putAll, List.setIfInBounds_toArray, List.set_cons_succ, List.set_cons_zero]; rfl) (Below.refl _ _).drew 15 _ rfl rfl ?hop ?hst ?hQ
        case hop =>
          refine FixBL.toL (fun w' w'' hS hb => hS.trans (hb.mono hS.size)) _ _ ?_
          refine ⟨.inr ?_, .inr ?_, .inr ?_, .inr ?_, .inr ?_, .inr ?_, .inr ?_, .inr ?_, .inr ?_, .inr ?_, .inr ?_, .inr ?_, .inr ?_, .inr ?_, .inr ?_, .inl rfl, trivial⟩
          · (with_reducible refine FixB.of ?_ ?_; rfl; intro w' hS; have s9 := Hbl.out.below hS ls; have s2 := s9.cell 2; simp only [List.getElem?_toArray, List.getElem?_cons_zero, List.getElem?_cons_succ] at s2; have s3 := (hS.cell (p := ⟨b, off + i, none⟩) lb).trans Hcz.out; clear s9 hS; unfold Oper.wp; go_simp; first | done | exact Below.refl _ _)
          · (with_reducible refine FixB.of ?_ ?_; rfl; intro w' hS; have s9 := Hbl.out.below hS ls; have s2 := s9.cell 2; simp only [List.getElem?_toArray, List.getElem?_cons_zero, List.getElem?_cons_succ] at s2; have s3 := (hS.cell (p := ⟨b, off + i, none⟩) lb).trans Hcz.out; clear s9 hS; unfold Oper.wp; go_simp; first | done | exact Below.refl _ _)
          · (with_reducible refine FixB.of ?_ ?_; rfl; intro w' hS; have s9 := Hbl.out.below hS ls; have s2 := s9.cell 2; simp only [List.getElem?_toArray, List.getElem?_cons_zero, List.getElem?_cons_succ] at s2; have s3 := (hS.cell (p := ⟨b, off + i, none⟩) lb).trans Hcz.out; clear s9 hS; unfold Oper.wp; go_simp; first | done | exact Below.refl _ _)
          · (with_reducible refine FixB.of ?_ ?_; rfl; intro w' hS; have s9 := Hbl.out.below hS ls; have s2 := s9.cell 2; simp only [List.getElem?_toArray, List.getElem?_cons_zero, List.getElem?_cons_succ] at s2; have s3 := (hS.cell (p := ⟨b, off + i, none⟩) lb).trans Hcz.out; clear s9 hS; unfold Oper.wp; go_simp; first | done | exact Below.refl _ _)
          · (with_reducible refine FixB.of ?_ ?_; rfl; intro w' hS; have s9 := Hbl.out.below hS ls; have s2 := s9.cell 2; simp only [List.getElem?_toArray, List.getElem?_cons_zero, List.getElem?_cons_succ] at s2; have s3 := (hS.cell (p := ⟨b, off + i, none⟩) lb).trans Hcz.out; clear s9 hS; unfold Oper.wp; go_simp; first | done | exact Below.refl _ _)
          · (with_reducible refine FixB.of ?_ ?_; rfl; intro w' hS; have s9 := Hbl.out.below hS ls; have s2 := s9.cell 2; simp only [List.getElem?_toArray, List.getElem?_cons_zero, List.getElem?_cons_succ] at s2; have s3 := (hS.cell (p := ⟨b, off + i, none⟩) lb).trans Hcz.out; clear s9 hS; unfold Oper.wp; go_simp; first | done | exact Below.refl _ _)
          · (with_reducible refine FixB.of ?_ ?_; rfl; intro w' hS; have s9 := Hbl.out.below hS ls; have s2 := s9.cell 2; simp only [List.getElem?_toArray, List.getElem?_cons_zero, List.getElem?_cons_succ] at s2; have s3 := (hS.cell (p := ⟨b, off + i, none⟩) lb).trans Hcz.out; clear s9 hS; unfold Oper.wp; go_simp; first | done | exact Below.refl _ _)
          · (with_reducible refine FixB.of ?_ ?_; rfl; intro w' hS; have s9 := Hbl.out.below hS ls; have s2 := s9.cell 2; simp only [List.getElem?_toArray, List.getElem?_cons_zero, List.getElem?_cons_succ] at s2; have s3 := (hS.cell (p := ⟨b, off + i, none⟩) lb).trans Hcz.out; clear s9 hS; unfold Oper.wp; go_simp; first | done | exact Below.refl _ _)
          · (with_reducible refine FixB.of ?_ ?_; rfl; intro w' hS; have s9 := Hbl.out.below hS ls; have s2 := s9.cell 2; simp only [List.getElem?_toArray, List.getElem?_cons_zero, List.getElem?_cons_succ] at s2; have s3 := (hS.cell (p := ⟨b, off + i, none⟩) lb).trans Hcz.out; clear s9 hS; unfold Oper.wp; go_simp; first | done | exact Below.refl _ _)
          · (with_reducible refine FixB.of ?_ ?_; rfl; intro w' hS; have s9 := Hbl.out.below hS ls; have s2 := s9.cell 2; simp only [List.getElem?_toArray, List.getElem?_cons_zero, List.getElem?_cons_succ] at s2; have s3 := (hS.cell (p := ⟨b, off + i, none⟩) lb).trans Hcz.out; clear s9 hS; unfold Oper.wp; go_simp; first | done | exact Below.refl _ _)
          · (with_reducible refine FixB.of ?_ ?_; rfl; intro w' hS; have s9 := Hbl.out.below hS ls; have s2 := s9.cell 2; simp only [List.getElem?_toArray, List.getElem?_cons_zero, List.getElem?_cons_succ] at s2; have s3 := (hS.cell (p := ⟨b, off + i, none⟩) lb).trans Hcz.out; clear s9 hS; unfold Oper.wp; go_simp; first | done | exact Below.refl _ _)
          · (with_reducible refine FixB.of ?_ ?_; rfl; intro w' hS; have s9 := Hbl.out.below hS ls; have s2 := s9.cell 2; simp only [List.getElem?_toArray, List.getElem?_cons_zero, List.getElem?_cons_succ] at s2; have s3 := (hS.cell (p := ⟨b, off + i, none⟩) lb).trans Hcz.out; clear s9 hS; unfold Oper.wp; go_simp; first | done | exact Below.refl _ _)
          · (with_reducible refine FixB.of ?_ ?_; rfl; intro w' hS; have s9 := Hbl.out.below hS ls; have s2 := s9.cell 2; simp only [List.getElem?_toArray, List.getElem?_cons_zero, List.getElem?_cons_succ] at s2; have s3 := (hS.cell (p := ⟨b, off + i, none⟩) lb).trans Hcz.out; clear s9 hS; unfold Oper.wp; go_simp; first | done | exact Below.refl _ _)
          · (with_reducible refine FixB.of ?_ ?_; rfl; intro w' hS; have s9 := Hbl.out.below hS ls; have s2 := s9.cell 2; simp only [List.getElem?_toArray, List.getElem?_cons_zero, List.getElem?_cons_succ] at s2; have s3 := (hS.cell (p := ⟨b, off + i, none⟩) lb).trans Hcz.out; clear s9 hS; unfold Oper.wp; go_simp; first | done | exact Below.refl _ _)
          · (with_reducible refine FixB.of ?_ ?_; rfl; intro w' hS; have s9 := Hbl.out.below hS ls; have s2 := s9.cell 2; simp only [List.getElem?_toArray, List.getElem?_cons_zero, List.getElem?_cons_succ] at s2; have s3 := (hS.cell (p := ⟨b, off + i, none⟩) lb).trans Hcz.out; clear s9 hS; unfold Oper.wp; go_simp; first | done | exact Below.refl _ _)
        case hst =>
          refine ⟨rfl, fun w' hS => ?_⟩
          have s9 := Hbl.out.below hS ls
          have c2 := s9.cell 2
          have z2 := s9.frozen 2
          simp only [List.getElem?_toArray, List.getElem?_cons_zero, List.getElem?_cons_succ] at c2
          have Hs := Lib.hid hS
          clear hS s9
          unfold Oper.wp
          go_simp
          exact ⟨w', Hs.out, rfl⟩
        case hQ =>
        rintro w' ⟨w6, hb6, rfl⟩
        have b6 := (Hbl.out.below hb6 ls).set_ 2 (.int .u64 m3)
        have HS6 : Hid (Src (w6.setCell ⟨s, 2, none⟩ (.int .u64 m3)) s (some ⟨b, off, none⟩) n c zs) := by
          refine ⟨⟨a, m3, Ha.out, Hm3.out, b6.cast ?_⟩, ?_, Hn.out, Hnb.out⟩
          · simp only [List.setIfInBounds_toArray, List.set_cons_succ, List.set_cons_zero]
          · exact (HS.out.code.below (hb6.mono (Nat.le_of_lt ls))).below ((Below.refl _ _).setCell (p := ⟨s, 2, none⟩) (Nat.le_refl _) _)
        have Hb6 := Lib.hid ((Hb.out.trans (hb6.mono Hb.out.size)).setCell (p := ⟨s, 2, none⟩) (Nat.le_of_eq Hs.out.symm) (.int .u64 m3))
        clear b6 hb6
        go_wp2_with fail
        go_roundw
        case rel => exact ⟨i + 1, by go_num, Nat.succ_le_of_lt hin, HS6.out, Hb6.out⟩
        case measure => simp [intOf]; omega
      · have h4z : ¬ ((i : Int) < 4096) := by omega
        go_wp2_with fail
        go_ret
        exact ⟨s, rfl, Nat.le_of_eq Hs.out.symm, HS.out, Hb.out⟩
    · have hiz : ¬ ((i : Int) < (n : Int)) := by omega
      go_wp2_with fail
      go_ret
      exact ⟨s, rfl, Nat.le_of_eq Hs.out.symm, HS.out, Hb.out⟩
end Go.Proofs.Ytkbfocoaobiijaa

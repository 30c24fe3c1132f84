/- Results of the laws' calls in one form each; no conditions beyond those that the theorems state. Contracts of the source's beginning and of a pick; no conditions beyond those that each theorem states. Contract of a drawn order of at most five numbers; no conditions beyond those that the theorems state. Contracts of a drawn map; no conditions beyond those that the theorems state. Contracts of a map that seldom is none; no conditions beyond those that the theorems state. Contracts of drawn lists of maps; no conditions beyond those that the theorems state. Contracts of lists that seldom are none of generators; no conditions beyond those that the theorems state. Contracts of drawn generators; no conditions beyond those that the theorems state. Contracts of drawn generators with elements; no conditions beyond those that the theorems state. Contract of drawn generators with two elements; no conditions beyond those that the theorem states. Contracts of the draws of generators with elements; no conditions beyond those that the theorems state. -/
import Derived.Test.YtchjegojcpbfpaaGreatQM07
import Derived.Deep.DeepAppendWide
import Derived.Deep.DeepCutAuto
import Derived.Deep.CutBlock
set_option linter.unusedSimpArgs false
set_option linter.unusedVariables false
namespace Go.Proofs.YtchjegojcpbfpaaGreat
open Go.RowKit
set_option maxRecDepth 100000
def RetQ (res : List Int) (N : Nat) (code : Int) (w : World) (e : Ending) (w' : World) : Prop := ∃ A c, e = .returned (.tuple #[.slice A N c, I code]) ∧ RdI w' w'.heap.size A res ∧ Below w.heap.size w w'
theorem RetSI.toQ {res : List Int} {code code' : Int} {N : Nat} {w w' : World} {e : Ending} (h : RetSI res code w e w') (hN : res.length = N) (hc : code = code') : RetQ res N code' w e w' := by
  obtain ⟨A, c, rfl, hr, hb⟩ := h
  exact ⟨A, c, by rw [hN, hc], hr, hb⟩
def RetR (res : List M) (N : Nat) (code : Int) (w : World) (e : Ending) (w' : World) : Prop := ∃ A c, e = .returned (.tuple #[.slice A N c, I code]) ∧ RdM w' w'.heap.size A res ∧ Below w.heap.size w w'
theorem RetS.toR {res : List M} {code code' : Int} {N : Nat} {w w' : World} {e : Ending} (h : RetS res code w e w') (hN : res.length = N) (hc : code = code') : RetR res N code' w e w' := by
  obtain ⟨A, c, rfl, hr, hb⟩ := h
  exact ⟨A, c, by rw [hN, hc], hr, hb⟩
theorem OwM.noneA {e : TypeId} {w : World} {B n c : Nat} {A : Option Addr} {ms : List M} (h : OwM e w B (.slice A n c) ms) : A = none → n = 0 ∧ c = 0 := by
  intro hA
  rcases h.2 with ⟨h1, _⟩ | ⟨g, cap, cur, h1, _⟩
  · injection h1 with _ h2 h3; exact ⟨h2, h3⟩
  · injection h1 with h1 _ _; rw [hA] at h1; cases h1
theorem OwM.read {e : TypeId} {w : World} {B n c : Nat} {A : Option Addr} {ms : List M} (h : OwM e w B (.slice A n c) ms) : RdM w w.heap.size A ms := by
  obtain ⟨A', c', h1, hr⟩ := h.form
  injection h1 with h1 _ _
  rw [h1]; exact hr
theorem RdM.on {w w' : World} {A : Option Addr} {ms : List M} (h : RdM w w.heap.size A ms) (hb : Below w.heap.size w w') : RdM w' w'.heap.size A ms := Rd.more (Rd.below h hb) hb.size
end Go.Proofs.YtchjegojcpbfpaaGreat

namespace Go.Proofs.YtchjegojcpbfpaaGreat
open Go.RowKit
set_option maxRecDepth 100000
set_option linter.unusedSimpArgs false
set_option linter.unusedVariables false
def RetK (s : Nat) (A : Option Addr) (n c : Nat) (zs : List Int) (ls : List Int) (w : World) (e : Ending) (w' : World) : Prop := ∃ r : Int, e = .returned (I r) ∧ r ∈ ls ∧ Src w' s A n c zs ∧ w.grownBy w' (some s)
theorem pick_any {s : Nat} {A : Option Addr} {n c : Nat} {zs : List Int} (g k ck : Nat) (ls : List Int) (w : World) (hS : Src w s A n c zs) (ho : OwI 2 w (s + 1) (.slice (some ⟨g, 0, none⟩) k ck) ls) (hl : ls.length = k) (h1 : 1 ≤ k) (hk : k ≤ 300) :
    Calls Tryz.prog 83 #[.pointer (some ⟨s, 0, none⟩), .slice (some ⟨g, 0, none⟩) k ck] w (RetK s A n c zs ls w) := by
  have HS := Lib.hid hS
  have Ho := Lib.hid ho
  have Hl := Lib.hid hl
  clear hS ho hl
  go_enter Tryz.func83, Tryz.ntmps83
  go_wp2_with fail
  refine (next_any k w HS.out).mono ?_
  rintro e w1 ⟨r, rfl, hr, _, hS1, hg1⟩
  obtain ⟨hr0, hrk⟩ := hr (by omega)
  obtain ⟨j, hj⟩ : ∃ j : Nat, (j : Int) = r := ⟨r.toNat, by omega⟩
  have hjk : j < k := by omega
  have hjz : (j : Int) < (k : Int) := by omega
  subst hj
  have ho1 := OwI.keep Ho.out (fun q hq => hg1.block q (Ho.out.lt q hq).2 (by have := (Ho.out.lt q hq).1; intro e; injection e with e; omega))
  obtain ⟨c0, _⟩ := OwI.spotAt ho1 (k := j) (by rw [Hl.out]; exact hjk)
  have HS1 := Lib.hid hS1
  have Hg1 := Lib.hid hg1
  have Hm : Hid (gi ls j ∈ ls) := by
    show gi ls j ∈ ls
    unfold gi
    rw [List.getD_eq_getElem?_getD, List.getElem?_eq_getElem (by rw [Hl.out]; exact hjk)]
    exact List.getElem_mem _
  obtain ⟨x, hx⟩ : ∃ x, x = gi ls j := ⟨_, rfl⟩
  rw [← hx] at c0 Hm
  clear hr hS1 hg1 ho1 hx
  go_wp2_with fail
  go_ret
  exact ⟨x, rfl, Hm.out, HS1.out, Hg1.out⟩
def RetF (A : Option Addr) (n c : Nat) (zs : List Int) (w : World) (e : Ending) (w' : World) : Prop := ∃ s, e = .returned (.pointer (some ⟨s, 0, none⟩)) ∧ w.heap.size ≤ s ∧ Src w' s A n c zs ∧ Below w.heap.size w w'
set_option maxHeartbeats 2000000 in
theorem from_any {A : Option Addr} {n c : Nat} {zs : List Int} (w : World) (hx : RdU w w.heap.size A zs) (hn : zs.length = n) (hb : n < 4611686018427387904) :
    Calls Tryz.prog 48 #[.slice A n c] w (RetF A n c zs w) := by
  obtain ⟨h0, e0, hh0⟩ := u64_some (13591 + (n : Int))
  have Hx := Lib.hid hx
  have Hn := Lib.hid hn
  have Hnb := Lib.hid hb
  have e9 : IntKind.u64.wrap (n : Int) = (n : Int) := IntWalk.u64_in _ ⟨by omega, by omega⟩
  have Hh0 := Lib.hid hh0
  clear hx hn hb hh0
  go_enter Tryz.func48, Tryz.ntmps48
  go_wp2_with fail
  obtain ⟨s, hs⟩ : ∃ s, s = w.heap.size := ⟨_, rfl⟩
  obtain ⟨wb, hwb⟩ : ∃ wb, wb = w.alloc (.cells #[.slice A n c, I 0, .int .u64 h0] TSrc) := ⟨_, rfl⟩
  have HS0 : Hid (Src wb s A n c zs) := by
    show Src _ _ _ _ _ _
    rw [hwb, hs]
    exact ⟨⟨0, h0, Nat.zero_le _, Hh0.out, Blk.new w _ _⟩, Hx.out.below ((Below.refl _ _).alloc (Nat.le_refl _) _), Hn.out, Hnb.out⟩
  have Hb0 : Hid (Below w.heap.size w wb) := by show Below _ _ _; rw [hwb]; exact (Below.refl _ _).alloc (Nat.le_refl _) _
  have Hs := Lib.hid hs
  rw [← hs, ← hwb]
  clear hwb hs e0 e9
  go_loopw [4] (fun t wr => ∃ i : Nat, t = .int .i64 i ∧ i ≤ n ∧ Src wr s A n c zs ∧ Below w.heap.size w wr) (fun t _ => n - (intOf t).toNat)
  case atStart => exact ⟨0, rfl, Nat.zero_le _, HS0.out, Hb0.out⟩
  case round =>
    clear HS0 Hb0
    obtain ⟨i, rfl, hi, hS, hb⟩ := hrel
    have HS := Lib.hid hS
    have Hb := Lib.hid hb
    clear hS hb
    by_cases hin : i < n
    · have hiz : (i : Int) < (n : Int) := by omega
      by_cases h4 : i < 4096
      · have h4z : (i : Int) < 4096 := by omega
        obtain ⟨a, h, ha, hh, hbl⟩ := HS.out.blk
        obtain ⟨m1, f1, hm1⟩ := u64_some ((h : Int) * 1099511628211)
        obtain ⟨b, off, rfl, hbs, hcz⟩ := HS.out.code.at_ (k := i) (by rw [Hn.out]; exact hin)
        have hzv := HS.out.code.val (k := i) (by rw [Hn.out]; exact hin)
        obtain ⟨z, hz⟩ : ∃ z, z = gi zs i := ⟨_, rfl⟩
        rw [← hz] at hcz hzv
        obtain ⟨m2, f2, hm2⟩ := u64_some ((m1 : Int) + z)
        obtain ⟨m3, f3, hm3⟩ := u64_some ((m2 : Int) + 181)
        have f4 : IntKind.u64.wrap z = z := IntWalk.u64_in _ ⟨by omega, by omega⟩
        have ls := hbl.lt
        have lb : b < wr.heap.size := by omega
        have Hbl := Lib.hid hbl
        have Hcz := Lib.hid hcz
        have Hm3 := Lib.hid hm3
        have Ha := Lib.hid ha
        clear hbl hcz hz hh hm1 hm2 hm3 ha hzv
        go_wp2_with fail
        refine wp_region_last [] rfl (by kernel_rfl) (by kernel_rfl) (by kernel_rfl) (by kernel_rfl) (fun w' => Below wr.heap.size wr w')
          (fun w' => ∃ w3, Below wr.heap.size wr w3 ∧ w' = w3.setCell ⟨s, 2, none⟩ (.int .u64 m3)) _
          [.pointer (some ⟨s, 0, none⟩), .pointer (some ⟨s, 0, none⟩), .pointer (some ⟨s, 0, none⟩), .pointer (some ⟨s, 2, none⟩), .int .u64 h, .int .u64 m1, .slice (some ⟨b, off, none⟩) n c, I i, .pointer (some ⟨b, off + i, none⟩), .int .u8 z, .int .u64 z, .int .u64 m2, .int .u64 m3, .pointer (some ⟨s, 0, none⟩), .pointer (some ⟨s, 2, none⟩), undef]
          (by simp only [putAll, List.setIfInBounds_toArray, List.set_cons_succ, List.set_cons_zero]; rfl) (Below.refl _ _).drew 15 _ rfl rfl ?hop ?hst ?hQ
        case hop =>
          refine FixBL.toL (fun w' w'' hS hb => hS.trans (hb.mono hS.size)) _ _ ?_
          refine ⟨.inr ?_, .inr ?_, .inr ?_, .inr ?_, .inr ?_, .inr ?_, .inr ?_, .inr ?_, .inr ?_, .inr ?_, .inr ?_, .inr ?_, .inr ?_, .inr ?_, .inr ?_, .inl rfl, trivial⟩
          · (with_reducible refine FixB.of ?_ ?_; rfl; intro w' hS; have s9 := Hbl.out.below hS ls; have s2 := s9.cell 2; simp only [List.getElem?_toArray, List.getElem?_cons_zero, List.getElem?_cons_succ] at s2; have s3 := (hS.cell (p := ⟨b, off + i, none⟩) lb).trans Hcz.out; clear s9 hS; unfold Oper.wp; go_simp; first | done | exact Below.refl _ _)
          · (with_reducible refine FixB.of ?_ ?_; rfl; intro w' hS; have s9 := Hbl.out.below hS ls; have s2 := s9.cell 2; simp only [List.getElem?_toArray, List.getElem?_cons_zero, List.getElem?_cons_succ] at s2; have s3 := (hS.cell (p := ⟨b, off + i, none⟩) lb).trans Hcz.out; clear s9 hS; unfold Oper.wp; go_simp; first | done | exact Below.refl _ _)
          · (with_reducible refine FixB.of ?_ ?_; rfl; intro w' hS; have s9 := Hbl.out.below hS ls; have s2 := s9.cell 2; simp only [List.getElem?_toArray, List.getElem?_cons_zero, List.getElem?_cons_succ] at s2; have s3 := (hS.cell (p := ⟨b, off + i, none⟩) lb).trans Hcz.out; clear s9 hS; unfold Oper.wp; go_simp; first | done | exact Below.refl _ _)
          · (with_reducible refine FixB.of ?_ ?_; rfl; intro w' hS; have s9 := Hbl.out.below hS ls; have s2 := s9.cell 2; simp only [List.getElem?_toArray, List.getElem?_cons_zero, List.getElem?_cons_succ] at s2; have s3 := (hS.cell (p := ⟨b, off + i, none⟩) lb).trans Hcz.out; clear s9 hS; unfold Oper.wp; go_simp; first | done | exact Below.refl _ _)
          · (with_reducible refine FixB.of ?_ ?_; rfl; intro w' hS; have s9 := Hbl.out.below hS ls; have s2 := s9.cell 2; simp only [List.getElem?_toArray, List.getElem?_cons_zero, List.getElem?_cons_succ] at s2; have s3 := (hS.cell (p := ⟨b, off + i, none⟩) lb).trans Hcz.out; clear s9 hS; unfold Oper.wp; go_simp; first | done | exact Below.refl _ _)
          · (with_reducible refine FixB.of ?_ ?_; rfl; intro w' hS; have s9 := Hbl.out.below hS ls; have s2 := s9.cell 2; simp only [List.getElem?_toArray, List.getElem?_cons_zero, List.getElem?_cons_succ] at s2; have s3 := (hS.cell (p := ⟨b, off + i, none⟩) lb).trans Hcz.out; clear s9 hS; unfold Oper.wp; go_simp; first | done | exact Below.refl _ _)
          · (with_reducible refine FixB.of ?_ ?_; rfl; intro w' hS; have s9 := Hbl.out.below hS ls; have s2 := s9.cell 2; simp only [List.getElem?_toArray, List.getElem?_cons_zero, List.getElem?_cons_succ] at s2; have s3 := (hS.cell (p := ⟨b, off + i, none⟩) lb).trans Hcz.out; clear s9 hS; unfold Oper.wp; go_simp; first | done | exact Below.refl _ _)
          · (with_reducible refine FixB.of ?_ ?_; rfl; intro w' hS; have s9 := Hbl.out.below hS ls; have s2 := s9.cell 2; simp only [List.getElem?_toArray, List.getElem?_cons_zero, List.getElem?_cons_succ] at s2; have s3 := (hS.cell (p := ⟨b, off + i, none⟩) lb).trans Hcz.out; clear s9 hS; unfold Oper.wp; go_simp; first | done | exact Below.refl _ _)
          · (with_reducible refine FixB.of ?_ ?_; rfl; intro w' hS; have s9 := Hbl.out.below hS ls; have s2 := s9.cell 2; simp only [List.getElem?_toArray, List.getElem?_cons_zero, List.getElem?_cons_succ] at s2; have s3 := (hS.cell (p := ⟨b, off + i, none⟩) lb).trans Hcz.out; clear s9 hS; unfold Oper.wp; go_simp; first | done | exact Below.refl _ _)
          · (with_reducible refine FixB.of ?_ ?_; rfl; intro w' hS; have s9 := Hbl.out.below hS ls; have s2 := s9.cell 2; simp only [List.getElem?_toArray, List.getElem?_cons_zero, List.getElem?_cons_succ] at s2; have s3 := (hS.cell (p := ⟨b, off + i, none⟩) lb).trans Hcz.out; clear s9 hS; unfold Oper.wp; go_simp; first | done | exact Below.refl _ _)
          · (with_reducible refine FixB.of ?_ ?_; rfl; intro w' hS; have s9 := Hbl.out.below hS ls; have s2 := s9.cell 2; simp only [List.getElem?_toArray, List.getElem?_cons_zero, List.getElem?_cons_succ] at s2; have s3 := (hS.cell (p := ⟨b, off + i, none⟩) lb).trans Hcz.out; clear s9 hS; unfold Oper.wp; go_simp; first | done | exact Below.refl _ _)
          · (with_reducible refine FixB.of ?_ ?_; rfl; intro w' hS; have s9 := Hbl.out.below hS ls; have s2 := s9.cell 2; simp only [List.getElem?_toArray, List.getElem?_cons_zero, List.getElem?_cons_succ] at s2; have s3 := (hS.cell (p := ⟨b, off + i, none⟩) lb).trans Hcz.out; clear s9 hS; unfold Oper.wp; go_simp; first | done | exact Below.refl _ _)
          · (with_reducible refine FixB.of ?_ ?_; rfl; intro w' hS; have s9 := Hbl.out.below hS ls; have s2 := s9.cell 2; simp only [List.getElem?_toArray, List.getElem?_cons_zero, List.getElem?_cons_succ] at s2; have s3 := (hS.cell (p := ⟨b, off + i, none⟩) lb).trans Hcz.out; clear s9 hS; unfold Oper.wp; go_simp; first | done | exact Below.refl _ _)
          · (with_reducible refine FixB.of ?_ ?_; rfl; intro w' hS; have s9 := Hbl.out.below hS ls; have s2 := s9.cell 2; simp only [List.getElem?_toArray, List.getElem?_cons_zero, List.getElem?_cons_succ] at s2; have s3 := (hS.cell (p := ⟨b, off + i, none⟩) lb).trans Hcz.out; clear s9 hS; unfold Oper.wp; go_simp; first | done | exact Below.refl _ _)
          · (with_reducible refine FixB.of ?_ ?_; rfl; intro w' hS; have s9 := Hbl.out.below hS ls; have s2 := s9.cell 2; simp only [List.getElem?_toArray, List.getElem?_cons_zero, List.getElem?_cons_succ] at s2; have s3 := (hS.cell (p := ⟨b, off + i, none⟩) lb).trans Hcz.out; clear s9 hS; unfold Oper.wp; go_simp; first | done | exact Below.refl _ _)
        case hst =>
          refine ⟨rfl, fun w' hS => ?_⟩
          have s9 := Hbl.out.below hS ls
          have c2 := s9.cell 2
          have z2 := s9.frozen 2
          simp only [List.getElem?_toArray, List.getElem?_cons_zero, List.getElem?_cons_succ] at c2
          have Hs := Lib.hid hS
          clear hS s9
          unfold Oper.wp
          go_simp
          exact ⟨w', Hs.out, rfl⟩
        case hQ =>
        rintro w' ⟨w6, hb6, rfl⟩
        have b6 := (Hbl.out.below hb6 ls).set_ 2 (.int .u64 m3)
        have HS6 : Hid (Src (w6.setCell ⟨s, 2, none⟩ (.int .u64 m3)) s (some ⟨b, off, none⟩) n c zs) := by
          refine ⟨⟨a, m3, Ha.out, Hm3.out, b6.cast ?_⟩, ?_, Hn.out, Hnb.out⟩
          · simp only [List.setIfInBounds_toArray, List.set_cons_succ, List.set_cons_zero]
          · exact (HS.out.code.below (hb6.mono (Nat.le_of_lt ls))).below ((Below.refl _ _).setCell (p := ⟨s, 2, none⟩) (Nat.le_refl _) _)
        have Hb6 := Lib.hid ((Hb.out.trans (hb6.mono Hb.out.size)).setCell (p := ⟨s, 2, none⟩) (Nat.le_of_eq Hs.out.symm) (.int .u64 m3))
        clear b6 hb6
        go_wp2_with fail
        go_roundw
        case rel => exact ⟨i + 1, by go_num, Nat.succ_le_of_lt hin, HS6.out, Hb6.out⟩
        case measure => simp [intOf]; omega
      · have h4z : ¬ ((i : Int) < 4096) := by omega
        go_wp2_with fail
        go_ret
        exact ⟨s, rfl, Nat.le_of_eq Hs.out.symm, HS.out, Hb.out⟩
    · have hiz : ¬ ((i : Int) < (n : Int)) := by omega
      go_wp2_with fail
      go_ret
      exact ⟨s, rfl, Nat.le_of_eq Hs.out.symm, HS.out, Hb.out⟩
end Go.Proofs.YtchjegojcpbfpaaGreat

namespace Go.Proofs.YtchjegojcpbfpaaGreat
open Go.RowKit
set_option maxRecDepth 100000
set_option linter.unusedSimpArgs false
set_option linter.unusedVariables false
theorem cI_one3 {zs : List Int} : ∀ u ∈ cI zs, u.oneCell' = true := fun u hu => by
  obtain ⟨z, _, rfl⟩ := List.mem_map.1 hu
  rfl
theorem cI_app3 (xs ys : List Int) : cI (xs ++ ys) = cI xs ++ cI ys := by simp [cI]
theorem wp_catI3 {w : World} {o : Oper} {a : Act} {K : Act → World → Prop} {Q : Exit → Act → World → Prop} (s x : Operand)
    (ho : o.op = .call { callee := .builtin .append, args := #[s, x], argTypes := #[39, 39] }) (B : Nat) (v : Value) (ms xs : List Int) (hs : a.eval s = v) (hown : OwI 2 w B v ms)
    (g off n c : Nat) (hx : a.eval x = .slice (some ⟨g, off, none⟩) n c) (hc : ∀ j, j < xs.length → w.cell? ⟨g, off + j, none⟩ = some (I (gi xs j))) (hn : xs.length = n)
    (hb : ms.length + n < 1073741824) (hB : B ≤ w.heap.size)
    (h : ∀ v' w', OwI 2 w' B v' (ms ++ xs) → w.grownBy w' v.ownBlock → K (a.put o.dst v') w') : o.wp Tryz.prog a w K Q := by
  obtain ⟨i, hi, hz0, hz1, hz2⟩ := info_parts infoI
  subst hn
  refine wp_append_own_wide w s x 39 ho B 2 i (.int .i64 0) 1 8 Tryz.underlying39 hi hz0 hz1 hz2 rfl (by decide) v ms.length (cI ms) hs hown ⟨g, off, none⟩ xs.length c (cI xs) hx (by rw [cI_length]; omega) ?_ ?_ (by unfold maxLen; omega) (by omega) hB ?_
  · intro j u hj
    have hjl : j < xs.length := by
      rcases Nat.lt_or_ge j xs.length with h | h
      · exact h
      · rw [List.getElem?_eq_none (by rw [cI_length]; exact h)] at hj; cases hj
    rw [cI_get hjl] at hj
    injection hj with hj
    subst hj
    have := hc j hjl
    unfold Addr.add
    split
    · rename_i h0; subst h0; first | exact this | (simp; done) | (simp at this ⊢; exact this)
    · exact this
  · exact cI_one3
  · intro v' w' h1 h2 _
    refine h v' w' ?_ h2
    unfold OwI
    rw [cI_app3, List.length_append]
    exact h1
theorem wpList_catI3 {w : World} {ops : Array Oper} {rest : List Oper} {o : Oper} {a : Act} {Q : Exit → Act → World → Prop} (hgd : o.guard = none) (s x : Operand)
    (ho : o.op = .call { callee := .builtin .append, args := #[s, x], argTypes := #[39, 39] }) (B : Nat) (v : Value) (ms xs : List Int) (hs : a.eval s = v) (hown : OwI 2 w B v ms)
    (g off n c : Nat) (hx : a.eval x = .slice (some ⟨g, off, none⟩) n c) (hc : ∀ j, j < xs.length → w.cell? ⟨g, off + j, none⟩ = some (I (gi xs j))) (hn : xs.length = n)
    (hb : ms.length + n < 1073741824) (hB : B ≤ w.heap.size)
    (h : ∀ v' w', OwI 2 w' B v' (ms ++ xs) → w.grownBy w' v.ownBlock → wpList Tryz.prog ops Q rest (a.put o.dst v') w') : wpList Tryz.prog ops Q (o :: rest) a w :=
  wpList_plain hgd fun _ hK => wp_catI3 s x ho B v ms xs hs hown g off n c hx hc hn hb hB fun v' w' h2 h3 => hK _ _ (h v' w' h2 h3)
def RetV (zs : List Int) (w : World) (e : Ending) (w' : World) : Prop := ∃ v, e = .returned v ∧ OwI 2 w' w.heap.size v zs ∧ Below w.heap.size w w'
theorem own3_any (g n c : Nat) (zs : List Int) (w : World) (hc : ∀ j, j < zs.length → w.cell? ⟨g, j, none⟩ = some (I (gi zs j))) (hg : g < w.heap.size) (hn : zs.length = n) (hb : n ≤ 300) :
    Calls Tryz.prog 110 #[.slice (some ⟨g, 0, none⟩) n c] w (RetV zs w) := by
  have Hc := Lib.hid hc
  have Hn := Lib.hid hn
  clear hc hn
  go_enter Tryz.func110, Tryz.ntmps110
  go_wp2_with (at_builtin; refine wpList_catI3 rfl (.tmp 3) (.tmp 4) rfl w.heap.size (.slice (some ⟨w.heap.size, 0, none⟩) 0 0) [] zs rfl (OwI.made (Nat.le_refl _)) g 0 n c rfl (fun j hj => by rw [Nat.zero_add]; exact (World.cell?_alloc_lt _ _ _ hg).trans (Hc.out j hj)) Hn.out (by simp; omega) (by simp) ?_; intro v' w1 hown' hgr; have Ho1 := Lib.hid hown'; have Hb1 := Lib.hid (((OwI.made (e := 2) (Nat.le_refl w.heap.size))).bel ((Below.refl w.heap.size w).alloc (Nat.le_refl _) (.cells #[] 2)) hgr (Nat.le_refl _) (by simp)); clear hown' hgr)
  go_ret
  exact ⟨v', rfl, Ho1.out, Hb1.out⟩
structure OS where
  v1 : Value
  q : Nat
  v2 : Value
  v3 : Value
structure SO (w0 : World) (L : List Int) (a i : Nat) (b3 b5 b6 b10 : Bool) (s : OS) (w : World) : Prop where
  bel : Below w0.heap.size w0 w
  h3 : b3 = true → b6 = false → OwI 2 w w0.heap.size s.v1 (L.take a)
  h5 : b5 = true → b6 = false → Blk w s.q 2 #[I i] ∧ w0.heap.size ≤ s.q
  h6 : b6 = true → b10 = false → OwI 2 w w0.heap.size s.v2 (L.take a ++ [(i : Int)])
  h10 : b10 = true → OwI 2 w w0.heap.size s.v3 (L.take a ++ [(i : Int)] ++ L.drop a)
section
variable {w0 w w' : World} {L : List Int} {a i : Nat} {b3 b5 b6 b10 : Bool} {s : OS}
theorem SO.below (h : SO w0 L a i b3 b5 b6 b10 s w) (hb : Below w.heap.size w w') : SO w0 L a i b3 b5 b6 b10 s w' :=
  ⟨h.bel.trans (hb.mono h.bel.size), fun e e2 => (h.h3 e e2).below hb (Nat.le_refl _), fun e e2 => ⟨(h.h5 e e2).1.below hb (h.h5 e e2).1.lt, (h.h5 e e2).2⟩, fun e e2 => (h.h6 e e2).below hb (Nat.le_refl _), fun e => (h.h10 e).below hb (Nat.le_refl _)⟩
theorem SO.do3 (h : SO w0 L a i false b5 false false s w) (hb : Below w.heap.size w w') {v : Value} (hv : OwI 2 w' w.heap.size v (L.take a)) : SO w0 L a i true b5 false false { s with v1 := v } w' :=
  ⟨(h.below hb).bel, fun _ _ => hv.mono h.bel.size, (h.below hb).h5, (by simp), (by simp)⟩
theorem SO.do5 (h : SO w0 L a i b3 false false false s w) : SO w0 L a i b3 true false false { s with q := w.heap.size } (w.alloc (.cells #[I i] 2)) := by
  have hb : Below w.heap.size w (w.alloc (.cells #[I i] 2)) := (Below.refl _ _).alloc (Nat.le_refl _) _
  exact ⟨(h.below hb).bel, (h.below hb).h3, fun _ _ => ⟨Blk.new w _ _, h.bel.size⟩, (by simp), (by simp)⟩
theorem SO.do6 (h : SO w0 L a i true true false false s w) {v : Value} (hv : OwI 2 w' w0.heap.size v (L.take a ++ [(i : Int)])) (hg : w.grownBy w' s.v1.ownBlock) : SO w0 L a i true true true false { s with v2 := v } w' :=
  ⟨(h.h3 rfl rfl).bel h.bel hg (Nat.le_refl _) h.bel.size, (by simp), (by simp), fun _ _ => hv, (by simp)⟩
theorem SO.do10 (h : SO w0 L a i true true true false s w) {v : Value} (hv : OwI 2 w' w0.heap.size v (L.take a ++ [(i : Int)] ++ L.drop a)) (hg : w.grownBy w' s.v2.ownBlock) : SO w0 L a i true true true true { s with v3 := v } w' :=
  ⟨(h.h6 rfl rfl).bel h.bel hg (Nat.le_refl _) h.bel.size, (by simp), (by simp), (by simp), fun _ => hv⟩
end
theorem OwI.cap_le {e : TypeId} {w : World} {B g n c : Nat} {zs : List Int} (h : OwI e w B (.slice (some ⟨g, 0, none⟩) n c) zs) : n ≤ c := by
  rcases h.2 with ⟨h1, _⟩ | ⟨g', cap, cur, h1, _, _, h2, _⟩
  · cases h1
  · injection h1 with _ h3 h4
    omega
theorem gi_take {L : List Int} {a j : Nat} (h : j < a) : gi L j = gi (L.take a) j := by
  unfold gi
  rw [List.getD_eq_getElem?_getD, List.getD_eq_getElem?_getD, List.getElem?_take, if_pos h]
theorem gi_drop3 {L : List Int} {a j : Nat} : gi L (a + j) = gi (L.drop a) j := by
  unfold gi
  rw [List.getD_eq_getElem?_getD, List.getD_eq_getElem?_getD, List.getElem?_drop]
def RetO (s : Nat) (A : Option Addr) (n c : Nat) (zs : List Int) (k : Nat) (w : World) (e : Ending) (w' : World) : Prop :=
  ∃ (g ci : Nat) (L : List Int), e = .returned (.slice (some ⟨g, 0, none⟩) k ci) ∧ OwI 2 w' w.heap.size (.slice (some ⟨g, 0, none⟩) k ci) L ∧ L.length = k ∧ Src w' s A n c zs ∧ w.grownBy w' (some s)
set_option maxHeartbeats 2000000 in
theorem order_any {s : Nat} {A : Option Addr} {n c : Nat} {zs : List Int} (k : Nat) (hk : k ≤ 5) (w : World) (hS : Src w s A n c zs) :
    Calls Tryz.prog 113 #[.pointer (some ⟨s, 0, none⟩), I k] w (RetO s A n c zs k w) := by
  have HS := Lib.hid hS
  have hsl := hS.lt
  clear hS
  go_enter Tryz.func113, Tryz.ntmps113
  go_wp2_with fail
  go_loopw [5, 6] (fun v t wr => ∃ (i g ci : Nat) (L : List Int), t = .int .i64 i ∧ i ≤ k ∧ v = .slice (some ⟨g, 0, none⟩) i ci ∧ OwI 2 wr w.heap.size (.slice (some ⟨g, 0, none⟩) i ci) L ∧ L.length = i ∧ Src wr s A n c zs ∧ w.grownBy wr (some s)) (fun _ t _ => k - (intOf t).toNat)
  case atStart => exact ⟨0, w.heap.size, 0, [], rfl, Nat.zero_le _, rfl, OwI.made (Nat.le_refl _), rfl, HS.out.alloc _, World.grownBy_alloc w _ _⟩
  case round =>
    obtain ⟨i, g, ci, L, rfl, hi, rfl, ho, hl, hS, hg⟩ := hrel
    have HS := Lib.hid hS
    have Ho := Lib.hid ho
    have Hl := Lib.hid hl
    have Hg := Lib.hid hg
    have hszr := hg.size
    clear hS ho hl hg
    by_cases hik : i < k
    · have hiz : (i : Int) < (k : Int) := by omega
      go_wp2_with fail
      have hnx := next_any ((i : Int) + 1) wr HS.out
      refine hnx.mono ?_
      rintro e w1 ⟨r, rfl, hr, _, hS1, hg1⟩
      obtain ⟨hr0, hr1⟩ := hr (by omega)
      obtain ⟨a, ha⟩ : ∃ a : Nat, (a : Int) = r := ⟨r.toNat, by omega⟩
      subst ha
      have hai : a ≤ i := by omega
      have haz : (a : Int) ≤ (i : Int) := by omega
      have ho1 := OwI.keep Ho.out (fun q hq => hg1.block q (Ho.out.lt q hq).2 (by have := (Ho.out.lt q hq).1; intro e; injection e with e; omega))
      have hci := ho1.cap_le
      have hac : a ≤ ci := Nat.le_trans hai hci
      have hacz : (a : Int) ≤ (ci : Int) := by omega
      obtain ⟨oa, hoa, hoa2⟩ : ∃ oa, (if ci = a then (some ⟨g, 0, none⟩ : Option Addr) else some ⟨g, a, none⟩) = some ⟨g, oa, none⟩ ∧ (¬ ci = a → oa = a) := by
        by_cases e : ci = a
        · exact ⟨0, by rw [if_pos e], fun h => absurd e h⟩
        · exact ⟨a, by rw [if_neg e], fun _ => rfl⟩
      have Hoa2 := Lib.hid hoa2
      clear hoa2
      have hicz : (i : Int) ≤ (ci : Int) := by omega
      have hlt1 := (ho1.lt g rfl).2
      have Ho1 := Lib.hid ho1
      have HC : Hid (∀ w', Below w1.heap.size w1 w' → ∀ j, j < i → w'.cell? ⟨g, j, none⟩ = some (I (gi L j))) := fun w' hb j hj =>
        (hb.cell (p := ⟨g, j, none⟩) hlt1).trans (OwI.spotAt ho1 (k := j) (by rw [Hl.out]; exact hj)).1
      have HS1 := Lib.hid hS1
      have Hg1 := Lib.hid (grown_trans Hg.out hg1)
      have hz1 := Hg1.out.size
      have htl : (L.take a).length = a := by rw [List.length_take, Hl.out]; omega
      have hdl : (L.drop a).length = i - a := by rw [List.length_drop, Hl.out]
      have Htl := Lib.hid htl
      have Hdl := Lib.hid hdl
      clear hnx hr hr0 hr1 hS1 hg1 ho1 htl hdl
      go_wp2_with fail
      refine wp_region_flags [] rfl (by kernel_rfl) (by kernel_rfl) [5] (by kernel_rfl) _
        (fun o : OS => [.slice (some ⟨g, 0, none⟩) i ci, I a, .slice (some ⟨g, 0, none⟩) a ci, o.v1, I i, .slice (some ⟨o.q, 0, none⟩) 1 1, o.v2, .slice (some ⟨g, 0, none⟩) i ci, I a, .slice (some ⟨g, oa, none⟩) (i - a) (ci - a), o.v3, o.v3])
        (by intro o; simp only [putAll, List.setIfInBounds_toArray, List.set_cons_succ, List.set_cons_zero]; rfl)
        [(5, .slice (some ⟨g, 0, none⟩) i ci)] rfl _
        (by intro o; simp only [setAll, List.setIfInBounds_toArray, List.set_cons_succ, List.set_cons_zero]; rfl) (by kernel_rfl)
        (fun d o w' => SO w1 L a i (d 3) (d 5) (d 6) (d 10) o w')
        ⟨undef, 0, undef, undef⟩ ⟨(Below.refl _ _).drew, by simp, by simp, by simp, by simp⟩ ?hop ?hQ
      case hop =>
        refine ⟨?_, ?_, ?_, ?_, ?_, ?_, ?_, ?_, ?_, ?_, ?_, ?_, trivial⟩
        · refine ⟨rfl, Flag.pure (fun _ _ _ h => h) fun d c w' hd hdeps hcl hS => ?_⟩
          skip
          clear hS hdeps hcl hd
          unfold Oper.wp
          go_simp
          exact ⟨rfl, fun t ht => by injection ht with ht; subst ht; rfl, rfl⟩
        · refine ⟨rfl, Flag.pure (fun _ _ _ h => h) fun d c w' hd hdeps hcl hS => ?_⟩
          skip
          clear hS hdeps hcl hd
          unfold Oper.wp
          go_simp
          exact ⟨rfl, fun t ht => by injection ht with ht; subst ht; rfl, rfl⟩
        · refine ⟨rfl, Flag.pure (fun _ _ _ h => h) fun d c w' hd hdeps hcl hS => ?_⟩
          skip
          clear hS hdeps hcl hd
          unfold Oper.wp
          go_simp
          exact ⟨rfl, fun t ht => by injection ht with ht; subst ht; rfl, rfl⟩
        · refine ⟨rfl, fun d o w' hd hdeps hcl hS => ?_⟩
          have d6 := hcl.down (k := 6) (j := 3) rfl (by kernel_rfl) hd
          have d10 := hcl.down (k := 10) (j := 6) rfl (by kernel_rfl) d6
          have hS : SO w1 L a i (d 3) (d 5) (d 6) (d 10) o w' := hS
          rw [hd, d6, d10] at hS
          have HSO := Lib.hid hS
          clear hS hdeps hcl
          unfold Oper.wp
          go_simp
          refine (own3_any g a ci (L.take a) w' (fun j hj => ?_) (Nat.lt_of_lt_of_le hlt1 HSO.out.bel.size) Htl.out (by omega)).mono ?_
          · rw [Htl.out] at hj
            rw [HC.out w' HSO.out.bel j (by omega), gi_take hj]
          · rintro e w6 ⟨v, rfl, ho, hb6⟩
            refine FlagPost.own ({ o with v1 := v } : OS) 21 v rfl rfl rfl ?_ rfl
            show SO _ _ _ _ true (d 5) (d 6) (d 10) _ _
            rw [d6, d10]
            exact HSO.out.do3 hb6 ho
        · refine ⟨rfl, Flag.pure (fun _ _ _ h => h) fun d c w' hd hdeps hcl hS => ?_⟩
          skip
          clear hS hdeps hcl hd
          unfold Oper.wp
          go_simp
          exact ⟨rfl, fun t ht => by injection ht with ht; subst ht; rfl, rfl⟩
        · refine ⟨rfl, fun d o w' hd hdeps hcl hS => ?_⟩
          have d6 := hcl.down (k := 6) (j := 5) rfl (by kernel_rfl) hd
          have d10 := hcl.down (k := 10) (j := 6) rfl (by kernel_rfl) d6
          have hS : SO w1 L a i (d 3) (d 5) (d 6) (d 10) o w' := hS
          rw [hd, d6, d10] at hS
          have hS2 := Lib.hid hS.do5
          clear hS hdeps hcl
          unfold Oper.wp
          go_simp
          refine FlagPost.own ({ o with q := w'.heap.size } : OS) 23 (.slice (some ⟨w'.heap.size, 0, none⟩) 1 1) rfl rfl rfl ?_ rfl
          show SO _ _ _ _ (d 3) true (d 6) (d 10) _ _
          rw [d6, d10]
          exact hS2.out
        · refine ⟨rfl, fun d o w' hd hdeps hcl hS => ?_⟩
          have d3 := hdeps 3 (by kernel_rfl)
          have d5 := hdeps 5 (by kernel_rfl)
          have d10 := hcl.down (k := 10) (j := 6) rfl (by kernel_rfl) hd
          have hS : SO w1 L a i (d 3) (d 5) (d 6) (d 10) o w' := hS
          rw [d3, d5, hd, d10] at hS
          refine wp_catI3 (.tmp 21) (.tmp 23) rfl w1.heap.size o.v1 (L.take a) [(i : Int)] rfl (hS.h3 rfl rfl) o.q 0 1 1 rfl (fun j hj => ?_) rfl (by rw [Htl.out]; omega) hS.bel.size ?_
          · have hj0 : j = 0 := by simpa using hj
            subst hj0
            exact ((hS.h5 rfl rfl).1.cell 0)
          · intro v' w6 ho hg
            refine FlagPost.own ({ o with v2 := v' } : OS) 24 v' rfl rfl rfl ?_ rfl
            show SO _ _ _ _ (d 3) (d 5) true (d 10) _ _
            rw [d3, d5, d10]
            exact hS.do6 ho hg
        · refine ⟨rfl, Flag.pure (fun _ _ _ h => h) fun d c w' hd hdeps hcl hS => ?_⟩
          skip
          clear hS hdeps hcl hd
          unfold Oper.wp
          go_simp
          exact ⟨rfl, fun t ht => by injection ht with ht; subst ht; rfl, rfl⟩
        · refine ⟨rfl, Flag.pure (fun _ _ _ h => h) fun d c w' hd hdeps hcl hS => ?_⟩
          skip
          clear hS hdeps hcl hd
          unfold Oper.wp
          go_simp
          exact ⟨rfl, fun t ht => by injection ht with ht; subst ht; rfl, rfl⟩
        · refine ⟨rfl, Flag.pure (fun _ _ _ h => h) fun d c w' hd hdeps hcl hS => ?_⟩
          skip
          clear hS hdeps hcl hd
          unfold Oper.wp
          go_simp
          exact ⟨rfl, fun t ht => by injection ht with ht; subst ht; rfl, rfl⟩
        · refine ⟨rfl, fun d o w' hd hdeps hcl hS => ?_⟩
          have d6 := hdeps 6 (by kernel_rfl)
          have d3 := hcl.up (k := 6) (j := 3) rfl (by kernel_rfl) d6
          have d5 := hcl.up (k := 6) (j := 5) rfl (by kernel_rfl) d6
          have d11 := hcl.down (k := 11) (j := 10) rfl (by kernel_rfl) hd
          have hS : SO w1 L a i (d 3) (d 5) (d 6) (d 10) o w' := hS
          rw [d3, d5, d6, hd] at hS
          refine wp_catI3 (.tmp 24) (.tmp 27) rfl w1.heap.size o.v2 (L.take a ++ [(i : Int)]) (L.drop a) rfl (hS.h6 rfl rfl) g oa (i - a) (ci - a) rfl (fun j hj => ?_) Hdl.out (by rw [List.length_append, Htl.out, List.length_singleton]; omega) hS.bel.size ?_
          · rw [Hdl.out] at hj
            rw [Hoa2.out (by omega), HC.out w' hS.bel (a + j) (by omega), gi_drop3]
          · intro v' w6 ho hg
            refine FlagPost.two ({ o with v3 := v' } : OS) 28 v' 11 _ 5 rfl rfl rfl ?_ rfl rfl rfl (by decide) d11
            show SO _ _ _ _ (d 3) (d 5) (d 6) true _ _
            rw [d3, d5, d6]
            exact hS.do10 ho hg
        · refine ⟨rfl, Flag.pure (fun _ _ _ h => h) fun d c w' hd hdeps hcl hS => ?_⟩
          skip
          clear hS hdeps hcl hd
          unfold Oper.wp
          go_simp
          exact ⟨rfl, fun t ht => by injection ht with ht; subst ht; rfl, rfl⟩
      case hQ =>
      intro fl o we hall hS
      have hS : SO w1 L a i (fl 3) (fl 5) (fl 6) (fl 10) o we := hS
      rw [hall 10 (by decide)] at hS
      have ho := hS.h10 rfl
      have hll : (L.take a ++ [(i : Int)] ++ L.drop a).length = i + 1 := by rw [List.length_append, List.length_append, Htl.out, Hdl.out, List.length_singleton]; omega
      obtain ⟨v1, q1, v2, v3⟩ := o
      obtain ⟨A7, c7, hv7, _⟩ := ho.form
      rw [hll] at hv7
      simp only at hv7
      subst hv7
      obtain ⟨g7, rfl⟩ : ∃ g7, A7 = some ⟨g7, 0, none⟩ := by
        rcases ho.2 with ⟨h1, h0⟩ | ⟨g', cap, cur, h1, _⟩
        · omega
        · injection h1 with h2 _ _
          exact ⟨g', h2⟩
      have Ho7 := Lib.hid (ho.mono hz1)
      have HS7 := Lib.hid (HS1.out.below hS.bel)
      have Hg7 := Lib.hid (grown_trans Hg1.out (grown_below hS.bel _))
      have Hll := Lib.hid hll
      clear hall hS ho hll
      go_wp2_with fail
      go_roundw
      case rel => exact ⟨i + 1, g7, c7, _, by go_num, Nat.succ_le_of_lt hik, rfl, Ho7.out, Hll.out, HS7.out, Hg7.out⟩
      case measure => simp [intOf]; omega
    · obtain rfl : i = k := by omega
      have hiz : ¬ ((i : Int) < (i : Int)) := by omega
      go_wp2_with fail
      go_ret
      exact ⟨g, ci, L, rfl, Ho.out, Hl.out, HS.out, Hg.out⟩
end Go.Proofs.YtchjegojcpbfpaaGreat

namespace Go.Proofs.YtchjegojcpbfpaaGreat
open Go.RowKit
set_option maxRecDepth 100000
set_option linter.unusedSimpArgs false
set_option linter.unusedVariables false
theorem OwI.lit {e : TypeId} {B : Nat} (w : World) (L : List Int) {n : Nat} (hn : L.length = n) (h1 : n ≤ 300) (hb : B ≤ w.heap.size) : OwI e (w.alloc (.cells (cI L).toArray e)) B (.slice (some ⟨w.heap.size, 0, none⟩) n n) L := by
  subst hn
  exact ⟨by rw [cI_length]; omega, .inr ⟨w.heap.size, L.length, (cI L).toArray, rfl, hb, Blk.new w _ _, Nat.le_refl _, by unfold maxLen; omega, by simp [cI_length], by simp [List.take_of_length_le, cI_length]⟩⟩
theorem OwI.rd4 {e : TypeId} {w : World} {B n c : Nat} {A : Option Addr} {zs : List Int} (h : OwI e w B (.slice A n c) zs) : RdI w w.heap.size A zs := by
  obtain ⟨A', c', e', hx⟩ := h.form
  injection e' with e1 e2 e3
  subst e1
  exact hx
def RetMp (s : Nat) (A : Option Addr) (n c : Nat) (zs : List Int) (P : M → Prop) (w : World) (e : Ending) (w' : World) : Prop := ∃ m : M, e = .returned (.agg (mc m)) ∧ P m ∧ Src w' s A n c zs ∧ w.grownBy w' (some s)
structure DM (w0 : World) (s : Nat) (A : Option Addr) (n c : Nat) (zs : List Int) (k : Nat) (m : M) (w : World) : Prop where
  src : Src w s A n c zs
  res : Blk w w0.heap.size 31 (mc M0)
  own : Blk w (w0.heap.size + 1) 31 (mc m)
  pts : m.p = k
  gr : w0.grownBy w (some s)
  low : s < w0.heap.size
section
variable {w0 w w' : World} {s : Nat} {A : Option Addr} {n c : Nat} {zs : List Int} {k : Nat} {m : M}
theorem DM.next (h : DM w0 s A n c zs k m w) (hs : Src w' s A n c zs) (hg : w.grownBy w' (some s)) : DM w0 s A n c zs k m w' :=
  ⟨hs, h.res.grown hg (fun e => by have := h.low; injection e with e; omega), h.own.grown hg (fun e => by have := h.low; injection e with e; omega), h.pts, grown_trans h.gr hg, h.low⟩
theorem DM.set (h : DM w0 s A n c zs k m w) {j : Nat} (hj : j < 5) (v : Int) : DM w0 s A n c zs k (M.mk' m.p fun i => if i = j then v else m.at i) (w.setCell ⟨w0.heap.size + 1, 1 + j, none⟩ (I v)) :=
  ⟨h.src.cell_far (by have := h.low; show s < w0.heap.size + 1; omega) _, h.res.far (by show w0.heap.size ≠ w0.heap.size + 1; omega) _, (h.own.set_ (1 + j) (I v)).cast (by rw [← mk'_eta m]; exact mc_set m.p m.at v hj), h.pts,
    ⟨h.gr.os, h.gr.tape, h.gr.output, by simpa [World.setCell] using h.gr.size, fun q hq hne => (Below.heap_setCell _ _ _ q (by show q ≠ w0.heap.size + 1; omega)).trans (h.gr.block q hq hne)⟩, h.low⟩
theorem Src.st6 (h : Src w s A n c zs) {q : Nat} (hq : s < q) (m : M) : Src (st6 w q m) s A n c zs :=
  (((((h.cell_far (p := ⟨q, 0, none⟩) hq _).cell_far (p := ⟨q, 1, none⟩) hq _).cell_far (p := ⟨q, 2, none⟩) hq _).cell_far (p := ⟨q, 3, none⟩) hq _).cell_far (p := ⟨q, 4, none⟩) hq _).cell_far (p := ⟨q, 5, none⟩) hq _
theorem grown_far {w0 w : World} {row : Option Nat} (h : w0.grownBy w row) {p : Addr} (hp : w0.heap.size ≤ p.block) (v : Value) : w0.grownBy (w.setCell p v) row :=
  ⟨h.os, h.tape, h.output, by simpa [World.setCell] using h.size, fun q hq hne => (Below.heap_setCell _ _ _ q (by omega)).trans (h.block q hq hne)⟩
theorem grown_st6 {w0 w : World} {row : Option Nat} (h : w0.grownBy w row) {q : Nat} (hq : w0.heap.size ≤ q) (m : M) : w0.grownBy (st6 w q m) row :=
  grown_far (p := ⟨q, 5, none⟩) (grown_far (p := ⟨q, 4, none⟩) (grown_far (p := ⟨q, 3, none⟩) (grown_far (p := ⟨q, 2, none⟩) (grown_far (p := ⟨q, 1, none⟩) (grown_far (p := ⟨q, 0, none⟩) h hq _) hq _) hq _) hq _) hq _) hq _
theorem DM.st (h : DM w0 s A n c zs k m w) (m' : M) (hp : m'.p = k) : DM w0 s A n c zs k m' (st6 w (w0.heap.size + 1) m') :=
  ⟨h.src.st6 (by have := h.low; omega) m', (((((h.res.far (p := ⟨w0.heap.size + 1, 0, none⟩) (by simp) _).far (p := ⟨w0.heap.size + 1, 1, none⟩) (by simp) _).far (p := ⟨w0.heap.size + 1, 2, none⟩) (by simp) _).far (p := ⟨w0.heap.size + 1, 3, none⟩) (by simp) _).far (p := ⟨w0.heap.size + 1, 4, none⟩) (by simp) _).far (p := ⟨w0.heap.size + 1, 5, none⟩) (by simp) _, h.own.st6 m', hp, grown_st6 h.gr (by omega) m', h.low⟩
theorem DM.fin (h : DM w0 s A n c zs k m w) (m' : M) (hp : m'.p = k) : RetMp s A n c zs (fun m => m.p = k) w0 (.returned (.agg (mc m'))) (st6 w w0.heap.size m') :=
  ⟨m', rfl, hp, h.src.st6 h.low m', grown_st6 h.gr (Nat.le_refl _) m'⟩
end
set_option maxHeartbeats 4000000 in
theorem drawOf_any {s : Nat} {A : Option Addr} {n c : Nat} {zs : List Int} (k : Nat) (h1 : 1 ≤ k) (h5 : k ≤ 5) (w : World) (hS : Src w s A n c zs) :
    Calls Tryz.prog 77 #[.pointer (some ⟨s, 0, none⟩), I k] w (RetMp s A n c zs (fun m => m.p = k) w) := by
  have HS := Lib.hid hS
  have hsl := hS.lt
  clear hS
  go_enter Tryz.func77, Tryz.ntmps77
  go_wp2_with fail
  have D0 : DM w s A n c zs k ⟨k, 0, 0, 0, 0, 0⟩ ((w.alloc (.cells (mc M0) 31)).alloc (.cells (mc ⟨k, 0, 0, 0, 0, 0⟩) 31)) :=
    ⟨(HS.out.alloc _).alloc _, (Blk.new w _ _).alloc _, Blk.new' _ _ _ (by simp), rfl, grown_below (((Below.refl _ _).alloc (Nat.le_refl _) _).alloc (by simp) _) _, hsl⟩
  refine (next_any 6 _ D0.src).mono ?_
  rintro e w1 ⟨r, rfl, hr, _, hS1, hg1⟩
  have D1 := Lib.hid (D0.next hS1 hg1)
  have hr6 := hr (by decide)
  clear hr hS1 hg1 D0
  by_cases r0 : r = 0
  · subst r0
    go_wp2_with fail
    refine (order_any k h5 w1 D1.out.src).mono ?_
    rintro e w2 ⟨g, ci, L, rfl, ho, hl, hS2, hg2⟩
    have D2 := Lib.hid (D1.out.next hS2 hg2)
    have Ho := Lib.hid ho
    have Hl := Lib.hid hl
    clear ho hl hS2 hg2
    go_wp2_with fail
    refine (l01Made_any _ k ci L w2 (OwI.rd4 Ho.out) Hl.out h5).mono ?_
    rintro e w3 ⟨rfl, hb3⟩
    have D3 := Lib.hid (D2.out.next (D2.out.src.below hb3) (grown_below hb3 _))
    have Hp : Hid ((made L).p = k) := by show (made L).p = k; rw [made_p, Hl.out]
    obtain ⟨e0, e1, e2, e3, e4, e5⟩ := D3.out.res.six
    obtain ⟨z0, z1, z2, z3, z4, z5⟩ := D3.out.res.fr6
    generalize made L = m at *
    clear hb3
    go_wp2_with fail
    refine bodyPost_ret (v := .agg (mc m)) ?_ rfl (D3.out.fin m Hp.out)
    simp [results, Tryz.results77, go_sem, *]
  by_cases r1 : r = 1
  · subst r1
    go_wp2_with fail
    refine (l01Identity_any k w1 (by omega) (by omega)).mono ?_
    rintro e w2 ⟨rfl, hb2⟩
    have D2 := D1.out.next (D1.out.src.below hb2) (grown_below hb2 _)
    have D3 := D2.st (one k) rfl
    have DD := Lib.hid D3
    obtain ⟨e0, e1, e2, e3, e4, e5⟩ := D2.own.six
    obtain ⟨z0, z1, z2, z3, z4, z5⟩ := D2.own.fr6
    clear D2 D3 hb2
    have Hp : Hid ((one k).p = k) := by show (one k).p = k; rfl
    generalize one k = m at *
    go_wp2_with fail
    refine (next_any k _ DD.out.src).mono ?_
    rintro e w3 ⟨a, rfl, hr, _, hS3, hg3⟩
    obtain ⟨ha0, hak⟩ := hr (by omega)
    have D3 := Lib.hid (DD.out.next hS3 hg3)
    obtain ⟨j, hj⟩ : ∃ j : Nat, (j : Int) = a := ⟨a.toNat, by omega⟩
    subst hj
    have hj5 : j < 5 := by omega
    clear hr hS3 hg3 e0 e1 e2 e3 e4 e5 z0 z1 z2 z3 z4 z5 DD
    go_wp2_with fail
    go_loopw [7] (fun t wr => ∃ (i : Nat) (m : M), t = .int .i64 i ∧ i ≤ k ∧ DM w s A n c zs k m wr) (fun t _ => k - (intOf t).toNat)
    case atStart => exact ⟨0, m, rfl, Nat.zero_le _, D3.out⟩
    case round =>
      clear D3 Hp
      obtain ⟨i, m, rfl, hi, hD⟩ := hrel
      have D := Lib.hid hD
      clear hD
      by_cases hik : i < k
      · have hiz : (i : Int) < (k : Int) := by omega
        have hi5 : i < 5 := by omega
        go_wp2_with fail
        refine (next_any 2 _ D.out.src).mono ?_
        rintro e w4 ⟨b, rfl, hr, _, hS4, hg4⟩
        have D4 := Lib.hid (D.out.next hS4 hg4)
        clear hr hS4 hg4
        by_cases hb : b = 0
        · subst hb
          have c3 := D4.out.own.at_ hi5
          have z1 := D4.out.own.frozen (1 + i)
          go_wp2_with fail
          go_roundw
          case rel => exact ⟨i + 1, _, by go_num, Nat.succ_le_of_lt hik, D4.out.set hi5 j⟩
          case measure => simp [intOf]; omega
        · go_wp2_with fail
          go_roundw
          case rel => exact ⟨i + 1, _, by go_num, Nat.succ_le_of_lt hik, D4.out⟩
          case measure => simp [intOf]; omega
      · have hiz : ¬ ((i : Int) < (k : Int)) := by omega
        obtain ⟨d0, d1, d2, d3, d4, d5⟩ := D.out.own.six
        obtain ⟨y0, y1, y2, y3, y4, y5⟩ := D.out.own.fr6
        obtain ⟨e0, e1, e2, e3, e4, e5⟩ := D.out.res.six
        obtain ⟨z0, z1, z2, z3, z4, z5⟩ := D.out.res.fr6
        obtain rfl | rfl | rfl | rfl | rfl : j = 0 ∨ j = 1 ∨ j = 2 ∨ j = 3 ∨ j = 4 := by omega
        · have D5 := D.out.set hj5 (0 : Nat)
          go_wp2_with fail
          refine bodyPost_ret (v := .agg (mc (M.mk' m.p fun i => if i = 0 then ((0 : Nat) : Int) else m.at i))) ?_ rfl (D5.fin _ D.out.pts)
          simp [results, Tryz.results77, go_sem, *]
          exact ⟨rfl, rfl, rfl, rfl, rfl, rfl⟩
        · have D5 := D.out.set hj5 (1 : Nat)
          go_wp2_with fail
          refine bodyPost_ret (v := .agg (mc (M.mk' m.p fun i => if i = 1 then ((1 : Nat) : Int) else m.at i))) ?_ rfl (D5.fin _ D.out.pts)
          simp [results, Tryz.results77, go_sem, *]
          exact ⟨rfl, rfl, rfl, rfl, rfl, rfl⟩
        · have D5 := D.out.set hj5 (2 : Nat)
          go_wp2_with fail
          refine bodyPost_ret (v := .agg (mc (M.mk' m.p fun i => if i = 2 then ((2 : Nat) : Int) else m.at i))) ?_ rfl (D5.fin _ D.out.pts)
          simp [results, Tryz.results77, go_sem, *]
          exact ⟨rfl, rfl, rfl, rfl, rfl, rfl⟩
        · have D5 := D.out.set hj5 (3 : Nat)
          go_wp2_with fail
          refine bodyPost_ret (v := .agg (mc (M.mk' m.p fun i => if i = 3 then ((3 : Nat) : Int) else m.at i))) ?_ rfl (D5.fin _ D.out.pts)
          simp [results, Tryz.results77, go_sem, *]
          exact ⟨rfl, rfl, rfl, rfl, rfl, rfl⟩
        · have D5 := D.out.set hj5 (4 : Nat)
          go_wp2_with fail
          refine bodyPost_ret (v := .agg (mc (M.mk' m.p fun i => if i = 4 then ((4 : Nat) : Int) else m.at i))) ?_ rfl (D5.fin _ D.out.pts)
          simp [results, Tryz.results77, go_sem, *]
          exact ⟨rfl, rfl, rfl, rfl, rfl, rfl⟩
  by_cases r2 : r = 2
  · subst r2
    go_wp2_with fail
    refine (next_any k w1 D1.out.src).mono ?_
    rintro e w2 ⟨a, rfl, hr, _, hS2, hg2⟩
    have D2 := Lib.hid (D1.out.next hS2 hg2)
    clear hr hS2 hg2
    go_wp2_with fail
    refine (next_any k w2 D2.out.src).mono ?_
    rintro e w3 ⟨b, rfl, hr, _, hS3, hg3⟩
    have D3 := Lib.hid (D2.out.next hS3 hg3)
    clear hr hS3 hg3
    go_wp2_with fail
    go_loopw [10] (fun t wr => ∃ (i : Nat) (m : M), t = .int .i64 i ∧ i ≤ k ∧ DM w s A n c zs k m wr) (fun t _ => k - (intOf t).toNat)
    case atStart => exact ⟨0, _, rfl, Nat.zero_le _, D3.out⟩
    case round =>
      clear D3
      obtain ⟨i, m, rfl, hi, hD⟩ := hrel
      have D := Lib.hid hD
      clear hD
      by_cases hik : i < k
      · have hiz : (i : Int) < (k : Int) := by omega
        have hi5 : i < 5 := by omega
        have hsz : s < wr.heap.size := D.out.src.lt
        go_wp2_with fail
        have hb4 : Below wr.heap.size wr (wr.alloc (.cells (cI [a, b]).toArray 2)) := (Below.refl _ _).alloc (Nat.le_refl _) _
        have D4 := D.out.next (D.out.src.below hb4) (grown_below hb4 _)
        refine (pick_any wr.heap.size 2 2 [a, b] _ D4.src (OwI.lit wr [a, b] rfl (by decide) hsz) rfl (by decide) (by decide)).mono ?_
        rintro e w5 ⟨b, rfl, _, hS5, hg5⟩
        have D5 := Lib.hid (D4.next hS5 hg5)
        clear hS5 hg5 D4 hb4
        have c3 := D5.out.own.at_ hi5
        have z1 := D5.out.own.frozen (1 + i)
        go_wp2_with fail
        go_roundw
        case rel => exact ⟨i + 1, _, by go_num, Nat.succ_le_of_lt hik, D5.out.set hi5 b⟩
        case measure => simp [intOf]; omega
      · have hiz : ¬ ((i : Int) < (k : Int)) := by omega
        obtain ⟨d0, d1, d2, d3, d4, d5⟩ := D.out.own.six
        obtain ⟨e0, e1, e2, e3, e4, e5⟩ := D.out.res.six
        obtain ⟨z0, z1, z2, z3, z4, z5⟩ := D.out.res.fr6
        go_wp2_with fail
        refine bodyPost_ret (v := .agg (mc m)) ?_ rfl (D.out.fin m D.out.pts)
        simp [results, Tryz.results77, go_sem, *]
  obtain rfl | rfl | rfl : r = 3 ∨ r = 4 ∨ r = 5 := by omega
  all_goals
    go_wp2_with fail
    go_loopw [11] (fun t wr => ∃ (i : Nat) (m : M), t = .int .i64 i ∧ i ≤ k ∧ DM w s A n c zs k m wr) (fun t _ => k - (intOf t).toNat)
    case atStart => exact ⟨0, _, rfl, Nat.zero_le _, D1.out⟩
    case round =>
      clear D1
      obtain ⟨i, m, rfl, hi, hD⟩ := hrel
      have D := Lib.hid hD
      clear hD
      by_cases hik : i < k
      · have hiz : (i : Int) < (k : Int) := by omega
        have hi5 : i < 5 := by omega
        go_wp2_with fail
        refine (next_any k _ D.out.src).mono ?_
        rintro e w5 ⟨b, rfl, hr, _, hS5, hg5⟩
        have D5 := Lib.hid (D.out.next hS5 hg5)
        clear hr hS5 hg5
        have c3 := D5.out.own.at_ hi5
        have z1 := D5.out.own.frozen (1 + i)
        go_wp2_with fail
        go_roundw
        case rel => exact ⟨i + 1, _, by go_num, Nat.succ_le_of_lt hik, D5.out.set hi5 b⟩
        case measure => simp [intOf]; omega
      · have hiz : ¬ ((i : Int) < (k : Int)) := by omega
        obtain ⟨d0, d1, d2, d3, d4, d5⟩ := D.out.own.six
        obtain ⟨e0, e1, e2, e3, e4, e5⟩ := D.out.res.six
        obtain ⟨z0, z1, z2, z3, z4, z5⟩ := D.out.res.fr6
        go_wp2_with fail
        refine bodyPost_ret (v := .agg (mc m)) ?_ rfl (D.out.fin m D.out.pts)
        simp [results, Tryz.results77, go_sem, *]
theorem draw_any {s : Nat} {A : Option Addr} {n c : Nat} {zs : List Int} (w : World) (hS : Src w s A n c zs) :
    Calls Tryz.prog 65 #[.pointer (some ⟨s, 0, none⟩)] w (RetMp s A n c zs (fun m => ∃ k : Nat, 1 ≤ k ∧ k ≤ 5 ∧ m.p = k) w) := by
  have HS := Lib.hid hS
  have hsl := hS.lt
  clear hS
  go_enter Tryz.func65, Tryz.ntmps65
  go_wp2_with fail
  have hb0 : Below w.heap.size w (w.alloc (.cells (mc M0) 31)) := (Below.refl _ _).alloc (Nat.le_refl _) _
  have hb1 : Below w.heap.size w ((w.alloc (.cells (mc M0) 31)).alloc (.cells (cI [1, 2, 3, 3, 4, 4, 5, 5]).toArray 2)) := hb0.alloc (by simp) _
  have hbl : Blk ((w.alloc (.cells (mc M0) 31)).alloc (.cells (cI [1, 2, 3, 3, 4, 4, 5, 5]).toArray 2)) w.heap.size 31 (mc M0) := (Blk.new w _ _).alloc _
  have ho := OwI.lit (e := 2) (B := s + 1) (w.alloc (.cells (mc M0) 31)) [1, 2, 3, 3, 4, 4, 5, 5] (n := 8) rfl (by decide) (by simp; omega)
  rw [show (w.alloc (.cells (mc M0) 31)).heap.size = w.heap.size + 1 by simp] at ho
  refine (pick_any (w.heap.size + 1) 8 8 [1, 2, 3, 3, 4, 4, 5, 5] _ (HS.out.below hb1) ho rfl (by decide) (by decide)).mono ?_
  rintro e w2 ⟨r, rfl, hr, hS2, hg2⟩
  obtain ⟨k, rfl, hk1, hk5⟩ : ∃ k : Nat, r = k ∧ 1 ≤ k ∧ k ≤ 5 := by
    simp only [List.mem_cons, List.not_mem_nil, or_false] at hr
    exact ⟨r.toNat, by omega, by omega, by omega⟩
  have Hg := Lib.hid (grown_trans (grown_below hb1 _) hg2)
  have Hb2 := Lib.hid (hbl.grown hg2 (fun e => by injection e with e; omega))
  have HS2 := Lib.hid hS2
  clear hr hS2 hg2 hb0 hb1 hbl ho
  go_wp2_with fail
  refine (drawOf_any k hk1 hk5 w2 HS2.out).mono ?_
  rintro e w3 ⟨m, rfl, hp, hS3, hg3⟩
  have Hb3 := Hb2.out.grown hg3 (fun e => by injection e with e; omega)
  obtain ⟨e0, e1, e2, e3, e4, e5⟩ := Hb3.six
  obtain ⟨z0, z1, z2, z3, z4, z5⟩ := Hb3.fr6
  have HS3 := Lib.hid hS3
  have Hg3 := Lib.hid (grown_trans Hg.out hg3)
  have Hp := Lib.hid hp
  clear hS3 hg3 Hb3 hp
  go_wp2_with fail
  refine bodyPost_ret (v := .agg (mc m)) ?_ rfl ⟨m, rfl, ⟨k, hk1, hk5, Hp.out⟩, HS3.out.st6 hsl m, grown_st6 Hg3.out (Nat.le_refl _) m⟩
  simp [results, Tryz.results65, go_sem, *]
end Go.Proofs.YtchjegojcpbfpaaGreat

namespace Go.Proofs.YtchjegojcpbfpaaGreat
open Go.RowKit
set_option maxRecDepth 100000
set_option linter.unusedSimpArgs false
set_option linter.unusedVariables false
structure BG where
  j : Nat
  q : Nat
  v : Int
structure SB (w0 : World) (s : Nat) (A : Option Addr) (n c : Nat) (zs : List Int) (f : M) (b1 b5 b6 b9 : Bool) (o : BG) (w : World) : Prop where
  src : Src w s A n c zs
  gr : w0.grownBy w (some s)
  low : s < w0.heap.size
  two : w0.heap.size + 2 ≤ w.heap.size
  res : Blk w (w0.heap.size + 1) 31 (mc M0)
  own : ∃ m, Blk w w0.heap.size 31 (mc m) ∧ (b9 = false → m = f)
  h1 : b1 = true → o.j < 5
  h5 : b5 = true → b6 = false → OwI 2 w (w0.heap.size + 2) (.slice (some ⟨o.q, 0, none⟩) 3 3) [-1, f.p, 1099511627776]
section
variable {w0 w w' : World} {s : Nat} {A : Option Addr} {n c : Nat} {zs : List Int} {f : M} {b1 b5 b6 b9 : Bool} {o : BG}
theorem SB.next (h : SB w0 s A n c zs f b1 b5 b6 b9 o w) (hs : Src w' s A n c zs) (hg : w.grownBy w' (some s)) : SB w0 s A n c zs f b1 b5 b6 b9 o w' :=
  ⟨hs, grown_trans h.gr hg, h.low, Nat.le_trans h.two hg.size, h.res.grown hg (fun e => by have := h.low; injection e with e; omega),
    by obtain ⟨m, hm, he⟩ := h.own; exact ⟨m, hm.grown hg (fun e => by have := h.low; injection e with e; omega), he⟩, h.h1,
    fun e1 e2 => OwI.keep (h.h5 e1 e2) (fun q hq => hg.block q ((h.h5 e1 e2).lt q hq).2 (by have := ((h.h5 e1 e2).lt q hq).1; have := h.low; intro e; injection e with e; omega))⟩
theorem SB.pts (h : SB w0 s A n c zs f b1 b5 b6 false o w) : Blk w w0.heap.size 31 (mc f) := by
  obtain ⟨m, hm, he⟩ := h.own
  rwa [he rfl] at hm
theorem SB.do1 (h : SB w0 s A n c zs f false b5 b6 b9 o w) (hs : Src w' s A n c zs) (hg : w.grownBy w' (some s)) {j : Nat} (hj : j < 5) : SB w0 s A n c zs f true b5 b6 b9 { o with j := j } w' := by
  have k := h.next hs hg
  exact ⟨k.src, k.gr, k.low, k.two, k.res, k.own, fun _ => hj, k.h5⟩
theorem SB.do5 (h : SB w0 s A n c zs f b1 false false b9 o w) : SB w0 s A n c zs f b1 true false b9 { o with q := w.heap.size } (w.alloc (.cells (cI [-1, f.p, 1099511627776]).toArray 2)) := by
  have hb : Below w.heap.size w (w.alloc (.cells (cI [-1, f.p, 1099511627776]).toArray 2)) := (Below.refl _ _).alloc (Nat.le_refl _) _
  have k := h.next (h.src.below hb) (grown_below hb _)
  exact ⟨k.src, k.gr, k.low, k.two, k.res, k.own, k.h1, fun _ _ => OwI.lit w [-1, f.p, 1099511627776] rfl (by decide) h.two⟩
theorem SB.do6 (h : SB w0 s A n c zs f b1 true false b9 o w) (hs : Src w' s A n c zs) (hg : w.grownBy w' (some s)) (v : Int) : SB w0 s A n c zs f b1 true true b9 { o with v := v } w' := by
  have k := h.next hs hg
  exact ⟨k.src, k.gr, k.low, k.two, k.res, k.own, k.h1, by simp⟩
theorem SB.do9 (h : SB w0 s A n c zs f true true true false o w) : SB w0 s A n c zs f true true true true o (w.setCell ⟨w0.heap.size, 1 + o.j, none⟩ (I o.v)) := by
  have hj := h.h1 rfl
  exact ⟨h.src.cell_far h.low _, grown_far h.gr (Nat.le_refl _) _, h.low, by simpa [World.setCell] using h.two, h.res.far (by simp) _,
    ⟨_, (h.pts.set_ (1 + o.j) (I o.v)).cast (by rw [← mk'_eta f]; exact mc_set f.p f.at o.v hj), by simp⟩, h.h1, by simp⟩
end
set_option maxHeartbeats 400000 in
theorem bad_any {s : Nat} {A : Option Addr} {n c : Nat} {zs : List Int} (f : M) (w : World) (hS : Src w s A n c zs) :
    Calls Tryz.prog 121 #[.pointer (some ⟨s, 0, none⟩), .agg (mc f)] w (RetMp s A n c zs (fun _ => True) w) := by
  have HS := Lib.hid hS
  have hsl := hS.lt
  clear hS
  go_enter Tryz.func121, Tryz.ntmps121
  go_wp2_with fail
  have hb0 : Below w.heap.size w (w.alloc (.cells (mc f) 31)) := (Below.refl _ _).alloc (Nat.le_refl _) _
  have hb1 : Below w.heap.size w ((w.alloc (.cells (mc f) 31)).alloc (.cells (mc M0) 31)) := hb0.alloc (by simp) _
  have S0 : SB w s A n c zs f false false false false ⟨0, 0, 0⟩ ((w.alloc (.cells (mc f) 31)).alloc (.cells (mc M0) 31)) :=
    ⟨HS.out.below hb1, grown_below hb1 _, hsl, by simp, Blk.new' _ _ _ (by simp), ⟨f, (Blk.new w _ _).alloc _, fun _ => rfl⟩, by simp, by simp⟩
  refine (next_any 40 _ S0.src).mono ?_
  rintro e w1 ⟨r, rfl, hr, _, hS1, hg1⟩
  have D1 := Lib.hid (S0.next hS1 hg1)
  clear hr hS1 hg1 S0 hb0 hb1
  by_cases r0 : r = 0
  · subst r0
    obtain ⟨d0, _⟩ := D1.out.pts.six
    have l1 := D1.out.pts.lt
    obtain ⟨x, hx⟩ : ∃ x, x = wrap64 (f.p + 1) := ⟨_, rfl⟩
    go_wp2_with fail
    rw [← hx]
    have hb2 : Below w1.heap.size w1 (w1.alloc (.cells (cI [0, 6, -1, x]).toArray 2)) := (Below.refl _ _).alloc (Nat.le_refl _) _
    have S2 := D1.out.next (D1.out.src.below hb2) (grown_below hb2 _)
    refine (pick_any w1.heap.size 4 4 [0, 6, -1, x] _ S2.src (OwI.lit w1 [0, 6, -1, x] rfl (by decide) D1.out.src.lt) rfl (by decide) (by decide)).mono ?_
    rintro e w2 ⟨r, rfl, hr, hS2, hg2⟩
    have S3 := S2.next hS2 hg2
    have D3 := Lib.hid S3
    obtain ⟨d0, d1, d2, d3, d4, d5⟩ := S3.pts.six
    obtain ⟨y0, y1, y2, y3, y4, y5⟩ := S3.pts.fr6
    obtain ⟨e0, e1, e2, e3, e4, e5⟩ := S3.res.six
    obtain ⟨z0, z1, z2, z3, z4, z5⟩ := S3.res.fr6
    have hlo := Lib.hid S3.low
    clear hr hS2 hg2 hb2 S2 S3
    have HF : Hid (RetMp s A n c zs (fun _ => True) w (.returned (.agg (mc ⟨r, f.t0, f.t1, f.t2, f.t3, f.t4⟩))) (st6 (w2.setCell ⟨w.heap.size, 0, none⟩ (I r)) (w.heap.size + 1) ⟨r, f.t0, f.t1, f.t2, f.t3, f.t4⟩)) :=
      ⟨⟨r, f.t0, f.t1, f.t2, f.t3, f.t4⟩, rfl, trivial, Src.st6 (D3.out.src.cell_far (p := ⟨w.heap.size, 0, none⟩) hsl (I r)) (Nat.lt_succ_of_lt hsl) ⟨r, f.t0, f.t1, f.t2, f.t3, f.t4⟩, grown_st6 (grown_far (p := ⟨w.heap.size, 0, none⟩) D3.out.gr (Nat.le_refl _) (I r)) (Nat.le_succ _) ⟨r, f.t0, f.t1, f.t2, f.t3, f.t4⟩⟩
    clear D3 hlo
    go_wp2_with fail
    refine bodyPost_ret (v := .agg (mc ⟨r, f.t0, f.t1, f.t2, f.t3, f.t4⟩)) ?_ rfl HF.out
    simp [results, Tryz.results121, go_sem, *]
  by_cases r1 : r = 1
  · subst r1
    go_wp2_with fail
    refine wp_region_flags [] rfl (by kernel_rfl) (by kernel_rfl) [] (by kernel_rfl) _
      (fun o : BG => [.pointer (some ⟨s, 0, none⟩), I o.j, .pointer (some ⟨s, 0, none⟩), .pointer (some ⟨w.heap.size, 0, none⟩), I f.p, .slice (some ⟨o.q, 0, none⟩) 3 3, I o.v, .pointer (some ⟨w.heap.size, 1, none⟩), .pointer (some ⟨w.heap.size, 1 + o.j, none⟩), undef])
      (by intro o; simp only [putAll, List.setIfInBounds_toArray, List.set_cons_succ, List.set_cons_zero]; rfl)
      [] rfl _
      (by intro o; simp only [setAll, List.setIfInBounds_toArray, List.set_cons_succ, List.set_cons_zero]; rfl) (by kernel_rfl)
      (fun d o w' => SB w s A n c zs f (d 1) (d 5) (d 6) (d 9) o w')
      ⟨0, 0, 0⟩ (D1.out.next (D1.out.src.below (Below.refl _ _).drew) (grown_below (Below.refl _ _).drew _)) ?hop ?hQ
    case hop =>
      refine ⟨?_, ?_, ?_, ?_, ?_, ?_, ?_, ?_, ?_, ?_, trivial⟩
      · refine ⟨rfl, Flag.pure (fun _ _ _ h => h) fun d c w' hd hdeps hcl hS => ?_⟩
        skip
        clear hS hdeps hcl hd
        unfold Oper.wp
        go_simp
        exact ⟨rfl, fun t ht => by injection ht with ht; subst ht; rfl, rfl⟩
      · refine ⟨rfl, fun d o w' hd hdeps hcl hS => ?_⟩
        have hS : SB w s A n c zs f (d 1) (d 5) (d 6) (d 9) o w' := hS
        have d8 := hcl.down (k := 8) (j := 1) rfl (by kernel_rfl) hd
        rw [hd] at hS
        have HSB := Lib.hid hS
        clear hS hdeps hcl
        unfold Oper.wp
        go_simp
        refine (next_any 5 w' HSB.out.src).mono ?_
        rintro e w6 ⟨r, rfl, hr, _, hS6, hg6⟩
        obtain ⟨hr0, hr5⟩ := hr (by decide)
        obtain ⟨j, hj⟩ : ∃ j : Nat, (j : Int) = r := ⟨r.toNat, by omega⟩
        subst hj
        refine ⟨({ o with j := j } : BG), [(19, I j), (26, .pointer (some ⟨w.heap.size, 1 + j, none⟩))], ⟨rfl, fun t ht => by injection ht with ht; subst ht; rfl⟩, ?_, rfl, ?_⟩
        · exact HSB.out.do1 hS6 hg6 (by omega)
        · intro p hp
          simp at hp
          rcases hp with rfl | rfl
          · exact .inl rfl
          · exact .inr ⟨8, _, rfl, rfl, by decide, d8⟩
      · refine ⟨rfl, Flag.pure (fun _ _ _ h => h) fun d c w' hd hdeps hcl hS => ?_⟩
        skip
        clear hS hdeps hcl hd
        unfold Oper.wp
        go_simp
        exact ⟨rfl, fun t ht => by injection ht with ht; subst ht; rfl, rfl⟩
      · refine ⟨rfl, Flag.pure (fun _ _ _ h => h) fun d c w' hd hdeps hcl hS => ?_⟩
        skip
        clear hS hdeps hcl hd
        unfold Oper.wp
        go_simp
        exact ⟨rfl, fun t ht => by injection ht with ht; subst ht; rfl, rfl⟩
      · refine ⟨rfl, fun d o w' hd hdeps hcl hS => ?_⟩
        have hS : SB w s A n c zs f (d 1) (d 5) (d 6) (d 9) o w' := hS
        have d9 : d 9 = false := hcl.down (k := 9) (j := 6) rfl (by kernel_rfl) (hcl.down (k := 6) (j := 5) rfl (by kernel_rfl) (hcl.down (k := 5) (j := 4) rfl (by kernel_rfl) hd))
        have hS9 : SB w s A n c zs f (d 1) (d 5) (d 6) false o w' := by rw [← d9]; exact hS
        obtain ⟨c0, _⟩ := hS9.pts.six
        have Hs := Lib.hid hS
        clear hS hdeps hcl hd hS9
        unfold Oper.wp
        go_simp
        exact ⟨o, [], ⟨rfl, fun t ht => by injection ht with ht; subst ht; rfl⟩, Hs.out, rfl, by simp⟩
      · refine ⟨rfl, fun d o w' hd hdeps hcl hS => ?_⟩
        have hS : SB w s A n c zs f (d 1) (d 5) (d 6) (d 9) o w' := hS
        have d6 := hcl.down (k := 6) (j := 5) rfl (by kernel_rfl) hd
        rw [hd, d6] at hS
        have hS2 := Lib.hid hS.do5
        clear hS hdeps hcl
        unfold Oper.wp
        go_simp
        refine FlagPost.own ({ o with q := w'.heap.size } : BG) 23 (.slice (some ⟨w'.heap.size, 0, none⟩) 3 3) rfl rfl rfl ?_ rfl
        show SB _ _ _ _ _ _ _ (d 1) true (d 6) (d 9) _ _
        rw [d6]
        exact hS2.out
      · refine ⟨rfl, fun d o w' hd hdeps hcl hS => ?_⟩
        have hS : SB w s A n c zs f (d 1) (d 5) (d 6) (d 9) o w' := hS
        have d5 := hdeps 5 (by kernel_rfl)
        rw [hd, d5] at hS
        have HSB := Lib.hid hS
        clear hS hdeps hcl
        unfold Oper.wp
        go_simp
        refine (pick_any o.q 3 3 [-1, f.p, 1099511627776] w' HSB.out.src ((HSB.out.h5 rfl rfl).mono (by have := HSB.out.low; omega)) rfl (by decide) (by decide)).mono ?_
        rintro e w6 ⟨r, rfl, hr, hS6, hg6⟩
        refine FlagPost.own ({ o with v := r } : BG) 24 (I r) rfl rfl rfl ?_ rfl
        show SB _ _ _ _ _ _ _ (d 1) (d 5) true (d 9) _ _
        rw [d5]
        exact HSB.out.do6 hS6 hg6 r
      · refine ⟨rfl, Flag.pure (fun _ _ _ h => h) fun d c w' hd hdeps hcl hS => ?_⟩
        skip
        clear hS hdeps hcl hd
        unfold Oper.wp
        go_simp
        exact ⟨rfl, fun t ht => by injection ht with ht; subst ht; rfl, rfl⟩
      · refine ⟨rfl, fun d o w' hd hdeps hcl hS => ?_⟩
        have hS : SB w s A n c zs f (d 1) (d 5) (d 6) (d 9) o w' := hS
        have d1 := hdeps 1 (by kernel_rfl)
        have hj : o.j < 5 := hS.h1 d1
        have hjz : (o.j : Int) < 5 := by omega
        have Hs := Lib.hid hS
        clear hS hdeps hcl hd
        unfold Oper.wp
        go_simp
        exact ⟨o, [], ⟨rfl, fun t ht => by injection ht with ht; subst ht; rfl⟩, Hs.out, rfl, by simp⟩
      · refine ⟨rfl, fun d o w' hd hdeps hcl hS => ?_⟩
        have hS : SB w s A n c zs f (d 1) (d 5) (d 6) (d 9) o w' := hS
        have d8 := hdeps 8 (by kernel_rfl)
        have d6 := hdeps 6 (by kernel_rfl)
        have d1 := hcl.up (k := 8) (j := 1) rfl (by kernel_rfl) d8
        have d5 := hcl.up (k := 6) (j := 5) rfl (by kernel_rfl) d6
        rw [hd, d1, d5, d6] at hS
        have c3 := hS.pts.at_ (hS.h1 rfl)
        have z1 := hS.pts.frozen (1 + o.j)
        have Hs := Lib.hid hS.do9
        clear hS hdeps hcl
        unfold Oper.wp
        go_simp
        refine ⟨o, [], ⟨rfl, fun t ht => by cases ht⟩, ?_, rfl, by simp⟩
        show SB _ _ _ _ _ _ _ (d 1) (d 5) (d 6) true _ _
        rw [d1, d5, d6]
        exact Hs.out
    case hQ =>
    intro fl o we hall hS
    have hS : SB w s A n c zs f (fl 1) (fl 5) (fl 6) (fl 9) o we := hS
    have HS3 := Lib.hid hS
    obtain ⟨m, hm, _⟩ := hS.own
    obtain ⟨d0, d1, d2, d3, d4, d5⟩ := hm.six
    obtain ⟨e0, e1, e2, e3, e4, e5⟩ := hS.res.six
    obtain ⟨z0, z1, z2, z3, z4, z5⟩ := hS.res.fr6
    clear hS hall hm
    go_wp2_with fail
    refine bodyPost_ret (v := .agg (mc m)) ?_ rfl ⟨m, rfl, trivial, HS3.out.src.st6 (by omega) m, grown_st6 HS3.out.gr (by omega) m⟩
    simp [results, Tryz.results121, go_sem, *]
  obtain ⟨d0, d1, d2, d3, d4, d5⟩ := D1.out.pts.six
  obtain ⟨e0, e1, e2, e3, e4, e5⟩ := D1.out.res.six
  obtain ⟨z0, z1, z2, z3, z4, z5⟩ := D1.out.res.fr6
  go_wp2_with fail
  refine bodyPost_ret (v := .agg (mc f)) ?_ rfl ⟨f, rfl, trivial, D1.out.src.st6 (by omega) f, grown_st6 D1.out.gr (by omega) f⟩
  simp [results, Tryz.results121, go_sem, *]
theorem spoil_any {s : Nat} {A : Option Addr} {n c : Nat} {zs : List Int} (w : World) (hS : Src w s A n c zs) :
    Calls Tryz.prog 111 #[.pointer (some ⟨s, 0, none⟩)] w (RetMp s A n c zs (fun _ => True) w) := by
  have HS := Lib.hid hS
  have hsl := hS.lt
  clear hS
  go_enter Tryz.func111, Tryz.ntmps111
  go_wp2_with fail
  have hb0 : Below w.heap.size w (w.alloc (.cells (mc M0) 31)) := (Below.refl _ _).alloc (Nat.le_refl _) _
  have Hb := Lib.hid (Blk.new w 31 (mc M0))
  refine (draw_any _ (HS.out.below hb0)).mono ?_
  rintro e w2 ⟨m, rfl, _, hS2, hg2⟩
  have Hg2 := Lib.hid (grown_trans (grown_below hb0 _) hg2)
  have Hb2 := Lib.hid (Hb.out.grown hg2 (fun e => by injection e with e; omega))
  have HS2 := Lib.hid hS2
  clear hS2 hg2 hb0
  go_wp2_with fail
  refine (bad_any m w2 HS2.out).mono ?_
  rintro e w3 ⟨m3, rfl, _, hS3, hg3⟩
  have Hb3 := Hb2.out.grown hg3 (fun e => by injection e with e; omega)
  obtain ⟨e0, e1, e2, e3, e4, e5⟩ := Hb3.six
  obtain ⟨z0, z1, z2, z3, z4, z5⟩ := Hb3.fr6
  have HS3 := Lib.hid hS3
  have Hg3 := Lib.hid (grown_trans Hg2.out hg3)
  clear hS3 hg3 Hb3
  go_wp2_with fail
  refine bodyPost_ret (v := .agg (mc m3)) ?_ rfl ⟨m3, rfl, trivial, HS3.out.st6 hsl m3, grown_st6 Hg3.out (Nat.le_refl _) m3⟩
  simp [results, Tryz.results111, go_sem, *]
end Go.Proofs.YtchjegojcpbfpaaGreat

namespace Go.Proofs.YtchjegojcpbfpaaGreat
open Go.RowKit
set_option maxRecDepth 100000
set_option linter.unusedSimpArgs false
set_option linter.unusedVariables false
def RetL (B s : Nat) (A : Option Addr) (n c : Nat) (zs : List Int) (P : List M → Prop) (w : World) (e : Ending) (w' : World) : Prop :=
  ∃ (v : Value) (ms : List M), e = .returned v ∧ OwM 31 w' B v ms ∧ P ms ∧ Src w' s A n c zs ∧ w.grownBy w' (some s)
def LP (k : Nat) (ms : List M) : Prop := 1 ≤ ms.length ∧ ms.length ≤ 6 ∧ ∀ m ∈ ms, m.p = k
structure DL (w0 : World) (s : Nat) (A : Option Addr) (n c : Nat) (zs : List Int) (k j : Nat) (v : Value) (ms : List M) (w : World) : Prop where
  src : Src w s A n c zs
  gr : w0.grownBy w (some s)
  own : OwM 31 w w0.heap.size v ms
  low : s < w0.heap.size
  pts : ∀ m ∈ ms, m.p = k
  len : ms.length + j ≤ 6
  pos : 1 ≤ ms.length + j
section
variable {w0 w w' : World} {s : Nat} {A : Option Addr} {n c : Nat} {zs : List Int} {k j : Nat} {v : Value} {ms : List M}
theorem OwM.by_s {B : Nat} (h : OwM 31 w B v ms) (hg : w.grownBy w' (some s)) (hB : s < B) : OwM 31 w' B v ms :=
  h.keep fun q hq => hg.block q (h.lt q hq).2 (by have := (h.lt q hq).1; intro e; injection e with e; omega)
theorem DL.next (h : DL w0 s A n c zs k j v ms w) (hs : Src w' s A n c zs) (hg : w.grownBy w' (some s)) : DL w0 s A n c zs k j v ms w' :=
  ⟨hs, grown_trans h.gr hg, h.own.by_s hg h.low, h.low, h.pts, h.len, h.pos⟩
theorem DL.fin (h : DL w0 s A n c zs k 0 v ms w) : LP k ms := ⟨by have := h.pos; omega, by have := h.len; omega, h.pts⟩
theorem DL.cell (h : DL w0 s A n c zs k j v ms w) {q i : Nat} (hq : s < q) (hv : v.ownBlock ≠ some q) (u : Value) (hq0 : w0.heap.size ≤ q) : DL w0 s A n c zs k j v ms (w.setCell ⟨q, i, none⟩ u) :=
  ⟨h.src.cell_far (p := ⟨q, i, none⟩) hq u, grown_far (p := ⟨q, i, none⟩) h.gr hq0 u, h.own.far (p := ⟨q, i, none⟩) hv u, h.low, h.pts, h.len, h.pos⟩
theorem DL.push (h : DL w0 s A n c zs k (j + 1) v ms w) {v' : Value} {m : M} (hp : m.p = k) (hv : OwM 31 w' w0.heap.size v' (ms ++ [m])) (hg : w.grownBy w' v.ownBlock) : DL w0 s A n c zs k j v' (ms ++ [m]) w' :=
  have hne : ∀ q, v.ownBlock = some q → w0.heap.size ≤ q := fun q hq => (h.own.lt q hq).1
  ⟨h.src.grown hg (fun q hq => Nat.lt_of_lt_of_le h.low (hne q hq)),
    ⟨hg.os.trans h.gr.os, hg.tape.trans h.gr.tape, hg.output.trans h.gr.output, Nat.le_trans h.gr.size hg.size, fun q hq hs => (hg.block q (Nat.lt_of_lt_of_le hq h.gr.size) (fun e => by have := hne q e.symm; omega)).trans (h.gr.block q hq hs)⟩,
    hv, h.low, fun x hx => by
      rcases List.mem_append.1 hx with h' | h'
      · exact h.pts x h'
      · rw [List.mem_singleton] at h'; rw [h', hp], by have := h.len; simp; omega, by simp; omega⟩
theorem DL.alloc (h : DL w0 s A n c zs k j v ms w) (o : Obj) : DL w0 s A n c zs k j v ms (w.alloc o) :=
  have hb : Below w.heap.size w (w.alloc o) := (Below.refl _ _).alloc (Nat.le_refl _) o
  h.next (h.src.below hb) (grown_below hb _)
theorem DL.new_ne (h : DL w0 s A n c zs k j v ms w) : v.ownBlock ≠ some w.heap.size := fun e => by have := (h.own.lt _ e).2; omega
theorem DL.low2 (h : DL w0 s A n c zs k j v ms w) : w0.heap.size ≤ w.heap.size := h.gr.size
end
set_option maxHeartbeats 1000000 in
theorem drawList_five {s : Nat} {A : Option Addr} {n c : Nat} {zs : List Int} (w : World) (hS : Src w s A n c zs) :
    Calls Tryz.prog 122 #[.pointer (some ⟨s, 0, none⟩), .int .i64 (5 : Int)] w (RetL w.heap.size s A n c zs (LP 5) w) := by
  have HS := Lib.hid hS
  have hsl := hS.lt
  clear hS
  go_enter Tryz.func122, Tryz.ntmps122
  go_wp2_with fail
  have hb0 : Below w.heap.size w (w.alloc (.cells #[] 31)) := (Below.refl _ _).alloc (Nat.le_refl _) _
  have hb1 : Below w.heap.size w ((w.alloc (.cells #[] 31)).alloc (.cells (cI [1, 2, 3, 6]).toArray 2)) := hb0.alloc (by simp) _
  have ho := OwI.lit (e := 2) (B := s + 1) (w.alloc (.cells #[] 31)) [1, 2, 3, 6] (n := 4) rfl (by decide) (by simp; omega)
  rw [show (w.alloc (.cells #[] 31)).heap.size = w.heap.size + 1 by simp] at ho
  refine (pick_any (w.heap.size + 1) 4 4 [1, 2, 3, 6] _ (HS.out.below hb1) ho rfl (by decide) (by decide)).mono ?_
  rintro e w2 ⟨r, rfl, hr, hS2, hg2⟩
  have hr1 : 1 ≤ r ∧ r ≤ 6 := by
    simp only [List.mem_cons, List.not_mem_nil, or_false] at hr
    omega
  have ho2 := (OwM.made (e := 31) (w := w) (Nat.le_refl _)).alloc (.cells (cI [1, 2, 3, 6]).toArray 2)
  have HO := Lib.hid (ho2.by_s hg2 hsl)
  clear ho2
  have Hg := Lib.hid (grown_trans (grown_below hb1 _) hg2)
  have HS2 := Lib.hid hS2
  clear hr hS2 hg2 hb0 hb1 ho
  go_wp2_with fail
  refine (next_any r w2 HS2.out).mono ?_
  rintro e w3 ⟨x, rfl, hx, _, hS3, hg3⟩
  obtain ⟨hx0, hx6⟩ := hx (by omega)
  obtain ⟨y, hy⟩ : ∃ y : Nat, 1 + x = y := ⟨(1 + x).toNat, by omega⟩
  have hwy : wrap64 (1 + x) = (y : Int) := by rw [hy]; exact IntWalk.wrap64_in _ ⟨by omega, by omega⟩
  have D3 : Hid (DL w s A n c zs 5 y (.slice (some ⟨w.heap.size, 0, none⟩) 0 0) [] w3) := ⟨hS3, grown_trans Hg.out hg3, HO.out.by_s hg3 hsl, hsl, by simp, by simp; omega, by simp; omega⟩
  clear hx hS3 hg3 HO Hg HS2 hr1 hx0 hx6 hy
  go_wp2_with fail
  go_loopw [5, 6] (fun v t wr => ∃ (j : Nat) (A' : Option Addr) (q c' : Nat) (ms : List M), v = .slice A' q c' ∧ ms.length = q ∧ t = .int .i64 j ∧ DL w s A n c zs 5 j (.slice A' q c') ms wr) (fun _ t _ => (intOf t).toNat)
  case atStart => exact ⟨y, _, _, _, [], rfl, rfl, by rw [hwy], D3.out⟩
  case round =>
    clear D3 hwy
    obtain ⟨j, A', q, c', ms, rfl, hq, rfl, hD⟩ := hrel
    have D := Lib.hid hD
    have Hq := Lib.hid hq
    clear hD hq
    rcases j with _ | j
    · go_wp2_with fail
      go_ret
      exact ⟨_, ms, rfl, D.out.own, D.out.fin, D.out.src, D.out.gr⟩
    · have hjz : (((j + 1 : Nat) : Int)) > 0 := by omega
      have hwj : wrap64 (j : Int) = (j : Int) := IntWalk.wrap64_in _ (by have := D.out.len; exact ⟨by omega, by omega⟩)
      go_wp2_with fail
      refine (drawOf_any 5 (by decide) (by decide) wr D.out.src).mono ?_
      rintro e w4 ⟨m, rfl, hm, hS4, hg4⟩
      have D4 := Lib.hid (D.out.next hS4 hg4)
      have Hm := Lib.hid hm
      have D5 := Lib.hid (D4.out.alloc (.cells (mc m) 31))
      have B5 := Lib.hid (Blk.new w4 31 (mc m))
      have hlow4 := D4.out.low2
      have hne4 := Lib.hid D4.out.new_ne
      clear hS4 hg4 hm D
      go_wp2_with fail
      refine (next_any 3 _ D5.out.src).mono ?_
      rintro e w6 ⟨b, rfl, hb, _, hS6, hg6⟩
      have D6 := Lib.hid (D5.out.next hS6 hg6)
      have B6 := Lib.hid (B5.out.grown hg6 (fun e => by injection e with e; omega))
      obtain ⟨hb0, hb3⟩ := hb (by decide)
      clear hS6 hg6 hb D5 B5 D4
      obtain rfl | rfl | rfl : b = 0 ∨ b = 1 ∨ b = 2 := by omega
      · clear hb0 hb3
        obtain ⟨e0, e1, e2, e3, e4, e5⟩ := B6.out.six
        go_wp2_with (at_builtin; refine wpList_pushM rfl (.tmp 44) (.tmp 46) rfl w.heap.size (.slice A' q c') ms rfl (D6.out.own.alloc _) q Hq.out (w6.heap.size) 1 m rfl (Blk.six (Blk.new' _ _ _ (by simp))) (by have := D6.out.len; have := Hq.out; omega) (by have := D6.out.low2; first | omega | (simp at *; omega)) (w6.heap.size + 1) (by simp) ?_; intro g' cap w9 ho' hgr hg' hlt'; have D9 := Lib.hid ((D6.out.alloc (.cells (mc m) 31)).push Hm.out ho' hgr); clear ho' hgr hg' hlt')
        have HL : Hid ((ms ++ [m]).length = q + 1) := by show _ = _; rw [List.length_append, Hq.out]; rfl
        clear Hq Hm
        go_roundw
        case rel => exact ⟨j, some ⟨g', 0, none⟩, q + 1, cap, ms ++ [m], rfl, HL.out, by rw [hwj], D9.out⟩
        case measure => rw [hwj]; simp [intOf]
      all_goals
        clear hb0 hb3
        go_wp2_with fail
        go_loopw [8] (fun t wq => ∃ (i : Nat) (m : M), t = .int .i64 i ∧ i ≤ 5 ∧ DL w s A n c zs 5 (j + 1) (.slice A' q c') ms wq ∧ Blk wq w4.heap.size 31 (mc m) ∧ m.p = (5 : Nat)) (fun t _ => 5 - (intOf t).toNat)
        case atStart => exact ⟨0, m, rfl, Nat.zero_le _, D6.out, B6.out, Hm.out⟩
        case round =>
          clear D6 B6 Hm
          obtain ⟨i, m, rfl, hi, hD, hB, hm⟩ := hrel
          have D7 := Lib.hid hD
          have B7 := Lib.hid hB
          have Hm := Lib.hid hm
          clear hD hB hm
          by_cases hi5 : i < 5
          · have hiz : (i : Int) < 5 := by omega
            have c3 := B7.out.at_ hi5
            have z1 := B7.out.frozen (1 + i)
            go_wp2_with fail
            refine ⟨⟨i + 1, M.mk' m.p fun q => if q = i then (if (i : Int) < m.at i then (i : Int) else m.at i) else m.at q, by go_num, hi5, ?_, ?_, Hm.out⟩, by simp [intOf]; omega⟩
            · exact D7.out.cell (Nat.lt_of_lt_of_le hsl hlow4) hne4.out _ hlow4
            · refine (B7.out.set_ (1 + i) _).cast ?_
              have e : (if (i : Int) < m.at i then (i : Int) else m.at i) = min (m.at i) (i : Int) := by rw [Int.min_def]; split <;> split <;> omega
              first
                | (rw [← mk'_eta m]; exact mc_set m.p m.at _ hi5)
                | (rw [e, ← mk'_eta m]; exact mc_set m.p m.at _ hi5)
          · have hiz : ¬ ((i : Int) < 5) := by omega
            obtain ⟨e0, e1, e2, e3, e4, e5⟩ := B7.out.six
            go_wp2_with (at_builtin; refine wpList_pushM rfl (.tmp 44) (.tmp 46) rfl w.heap.size (.slice A' q c') ms rfl (D7.out.own.alloc _) q Hq.out (wr.heap.size) 1 m rfl (Blk.six (Blk.new' _ _ _ (by simp))) (by have := D7.out.len; have := Hq.out; omega) (by have := D7.out.low2; first | omega | (simp at *; omega)) (wr.heap.size + 1) (by simp) ?_; intro g' cap w9 ho' hgr hg' hlt'; have D9 := Lib.hid ((D7.out.alloc (.cells (mc m) 31)).push Hm.out ho' hgr); clear ho' hgr hg' hlt')
            have HL : Hid ((ms ++ [m]).length = q + 1) := by show _ = _; rw [List.length_append, Hq.out]; rfl
            clear Hq Hm
            refine ⟨⟨j, some ⟨g', 0, none⟩, q + 1, cap, ms ++ [m], rfl, HL.out, by rw [hwj], D9.out⟩, ?_⟩
            rw [hwj]
            simp [intOf]
set_option maxHeartbeats 1000000 in
theorem drawList_four {s : Nat} {A : Option Addr} {n c : Nat} {zs : List Int} (k : Nat) (h1 : 1 ≤ k) (h5 : k ≤ 4) (w : World) (hS : Src w s A n c zs) :
    Calls Tryz.prog 122 #[.pointer (some ⟨s, 0, none⟩), .int .i64 (k : Int)] w (RetL w.heap.size s A n c zs (LP k) w) := by
  have HS := Lib.hid hS
  have hsl := hS.lt
  clear hS
  go_enter Tryz.func122, Tryz.ntmps122
  go_wp2_with fail
  have hb0 : Below w.heap.size w (w.alloc (.cells #[] 31)) := (Below.refl _ _).alloc (Nat.le_refl _) _
  have hb1 : Below w.heap.size w ((w.alloc (.cells #[] 31)).alloc (.cells (cI [1, 2, 3, 6]).toArray 2)) := hb0.alloc (by simp) _
  have ho := OwI.lit (e := 2) (B := s + 1) (w.alloc (.cells #[] 31)) [1, 2, 3, 6] (n := 4) rfl (by decide) (by simp; omega)
  rw [show (w.alloc (.cells #[] 31)).heap.size = w.heap.size + 1 by simp] at ho
  refine (pick_any (w.heap.size + 1) 4 4 [1, 2, 3, 6] _ (HS.out.below hb1) ho rfl (by decide) (by decide)).mono ?_
  rintro e w2 ⟨r, rfl, hr, hS2, hg2⟩
  have hr1 : 1 ≤ r ∧ r ≤ 6 := by
    simp only [List.mem_cons, List.not_mem_nil, or_false] at hr
    omega
  have ho2 := (OwM.made (e := 31) (w := w) (Nat.le_refl _)).alloc (.cells (cI [1, 2, 3, 6]).toArray 2)
  have HO := Lib.hid (ho2.by_s hg2 hsl)
  clear ho2
  have Hg := Lib.hid (grown_trans (grown_below hb1 _) hg2)
  have HS2 := Lib.hid hS2
  clear hr hS2 hg2 hb0 hb1 ho
  go_wp2_with fail
  refine (next_any r w2 HS2.out).mono ?_
  rintro e w3 ⟨x, rfl, hx, _, hS3, hg3⟩
  obtain ⟨hx0, hx6⟩ := hx (by omega)
  obtain ⟨y, hy⟩ : ∃ y : Nat, 1 + x = y := ⟨(1 + x).toNat, by omega⟩
  have hwy : wrap64 (1 + x) = (y : Int) := by rw [hy]; exact IntWalk.wrap64_in _ ⟨by omega, by omega⟩
  have D3 : Hid (DL w s A n c zs k y (.slice (some ⟨w.heap.size, 0, none⟩) 0 0) [] w3) := ⟨hS3, grown_trans Hg.out hg3, HO.out.by_s hg3 hsl, hsl, by simp, by simp; omega, by simp; omega⟩
  clear hx hS3 hg3 HO Hg HS2 hr1 hx0 hx6 hy
  go_wp2_with fail
  go_loopw [5, 6] (fun v t wr => ∃ (j : Nat) (A' : Option Addr) (q c' : Nat) (ms : List M), v = .slice A' q c' ∧ ms.length = q ∧ t = .int .i64 j ∧ DL w s A n c zs k j (.slice A' q c') ms wr) (fun _ t _ => (intOf t).toNat)
  case atStart => exact ⟨y, _, _, _, [], rfl, rfl, by rw [hwy], D3.out⟩
  case round =>
    clear D3 hwy
    obtain ⟨j, A', q, c', ms, rfl, hq, rfl, hD⟩ := hrel
    have D := Lib.hid hD
    have Hq := Lib.hid hq
    clear hD hq
    rcases j with _ | j
    · go_wp2_with fail
      go_ret
      exact ⟨_, ms, rfl, D.out.own, D.out.fin, D.out.src, D.out.gr⟩
    · have hjz : (((j + 1 : Nat) : Int)) > 0 := by omega
      have hwj : wrap64 (j : Int) = (j : Int) := IntWalk.wrap64_in _ (by have := D.out.len; exact ⟨by omega, by omega⟩)
      go_wp2_with fail
      refine (drawOf_any k h1 (by omega) wr D.out.src).mono ?_
      rintro e w4 ⟨m, rfl, hm, hS4, hg4⟩
      have D4 := Lib.hid (D.out.next hS4 hg4)
      have Hm := Lib.hid hm
      have D5 := Lib.hid (D4.out.alloc (.cells (mc m) 31))
      have B5 := Lib.hid (Blk.new w4 31 (mc m))
      have hlow4 := D4.out.low2
      have hne4 := Lib.hid D4.out.new_ne
      clear hS4 hg4 hm D
      have hk5 : ¬ ((k : Int) = 5) := by omega
      obtain ⟨e0, e1, e2, e3, e4, e5⟩ := B5.out.six
      go_wp2_with (at_builtin; refine wpList_pushM rfl (.tmp 44) (.tmp 46) rfl w.heap.size (.slice A' q c') ms rfl (D5.out.own.alloc _) q Hq.out (w4.heap.size + 1) 1 m rfl (Blk.six (Blk.new' _ _ _ (by simp))) (by have := D5.out.len; have := Hq.out; omega) (by have := D5.out.low2; first | omega | (simp at *; omega)) (w4.heap.size + 1 + 1) (by simp) ?_; intro g' cap w9 ho' hgr hg' hlt'; have D9 := Lib.hid ((D5.out.alloc (.cells (mc m) 31)).push Hm.out ho' hgr); clear ho' hgr hg' hlt')
      have HL : Hid ((ms ++ [m]).length = q + 1) := by show _ = _; rw [List.length_append, Hq.out]; rfl
      clear Hq Hm
      go_roundw
      case rel => exact ⟨j, some ⟨g', 0, none⟩, q + 1, cap, ms ++ [m], rfl, HL.out, by rw [hwj], D9.out⟩
      case measure => rw [hwj]; simp [intOf]
theorem drawList_any {s : Nat} {A : Option Addr} {n c : Nat} {zs : List Int} (k : Nat) (h1 : 1 ≤ k) (h5 : k ≤ 5) (w : World) (hS : Src w s A n c zs) :
    Calls Tryz.prog 122 #[.pointer (some ⟨s, 0, none⟩), I k] w (RetL w.heap.size s A n c zs (LP k) w) := by
  rcases Nat.lt_or_ge 4 k with h | h
  · obtain rfl : k = 5 := by omega
    exact drawList_five w hS
  · exact drawList_four k h1 h w hS
end Go.Proofs.YtchjegojcpbfpaaGreat

namespace Go.Proofs.YtchjegojcpbfpaaGreat
open Go.RowKit
set_option maxRecDepth 100000
set_option linter.unusedSimpArgs false
set_option linter.unusedVariables false
theorem lists_any {s : Nat} {A : Option Addr} {n c : Nat} {zs : List Int} (w : World) (hS : Src w s A n c zs) :
    Calls Tryz.prog 90 #[.pointer (some ⟨s, 0, none⟩)] w (RetL w.heap.size s A n c zs (fun ms => ∃ k : Nat, 1 ≤ k ∧ k ≤ 5 ∧ LP k ms) w) := by
  have HS := Lib.hid hS
  have hsl := hS.lt
  clear hS
  go_enter Tryz.func90, Tryz.ntmps90
  go_wp2_with fail
  have hb1 : Below w.heap.size w (w.alloc (.cells (cI [1, 2, 2, 3, 3, 3, 4, 4, 5]).toArray 2)) := (Below.refl _ _).alloc (Nat.le_refl _) _
  have ho := OwI.lit (e := 2) (B := s + 1) w [1, 2, 2, 3, 3, 3, 4, 4, 5] (n := 9) rfl (by decide) hsl
  refine (pick_any w.heap.size 9 9 [1, 2, 2, 3, 3, 3, 4, 4, 5] _ (HS.out.below hb1) ho rfl (by decide) (by decide)).mono ?_
  rintro e w2 ⟨r, rfl, hr, hS2, hg2⟩
  obtain ⟨k, rfl, hk1, hk5⟩ : ∃ k : Nat, r = k ∧ 1 ≤ k ∧ k ≤ 5 := by
    simp only [List.mem_cons, List.not_mem_nil, or_false] at hr
    exact ⟨r.toNat, by omega, by omega, by omega⟩
  have Hg := Lib.hid (grown_trans (grown_below hb1 _) hg2)
  have HS2 := Lib.hid hS2
  clear hr hS2 hg2 hb1 ho
  go_wp2_with fail
  refine (drawList_any k hk1 hk5 w2 HS2.out).mono ?_
  rintro e w3 ⟨v, ms, rfl, ho, hp, hS3, hg3⟩
  have Ho := Lib.hid ho
  have HS3 := Lib.hid hS3
  have Hg3 := Lib.hid (grown_trans Hg.out hg3)
  have Hp := Lib.hid hp
  clear hS3 hg3 ho hp
  go_wp2_with fail
  go_ret
  exact ⟨v, ms, rfl, Ho.out.mono Hg.out.size, ⟨k, hk1, hk5, Hp.out⟩, HS3.out, Hg3.out⟩
structure BL where
  j : Nat
  m : M
structure SL (w0 : World) (s : Nat) (A : Option Addr) (n c : Nat) (zs : List Int) (v1 v5 : Value) (q : Nat) (ms : List M) (b4 b11 : Bool) (o : BL) (w : World) : Prop where
  src : Src w s A n c zs
  gr : w0.grownBy w (some s)
  low : s < w0.heap.size
  lst : b11 = false → (∃ B, s < B ∧ OwM 31 w B v1 ms) ∧ ∀ g, v1.ownBlock = some g → g < w0.heap.size
  own : ∃ ls, OwM 31 w w0.heap.size v5 ls ∧ ls.length = q
  h4 : b4 = true → o.j < q
section
variable {w0 w w' : World} {s : Nat} {A : Option Addr} {n c : Nat} {zs : List Int} {v1 v5 : Value} {q : Nat} {ms : List M} {b4 b11 : Bool} {o : BL}
theorem SL.next (h : SL w0 s A n c zs v1 v5 q ms b4 b11 o w) (hs : Src w' s A n c zs) (hg : w.grownBy w' (some s)) : SL w0 s A n c zs v1 v5 q ms b4 b11 o w' :=
  ⟨hs, grown_trans h.gr hg, h.low, fun e => ⟨by obtain ⟨B, h1, h2⟩ := (h.lst e).1; exact ⟨B, h1, h2.by_s hg h1⟩, (h.lst e).2⟩, by obtain ⟨ls, h1, h2⟩ := h.own; exact ⟨ls, h1.by_s hg h.low, h2⟩, h.h4⟩
theorem SL.do4 (h : SL w0 s A n c zs v1 v5 q ms false b11 o w) (hs : Src w' s A n c zs) (hg : w.grownBy w' (some s)) {j : Nat} (hj : j < q) : SL w0 s A n c zs v1 v5 q ms true b11 { o with j := j } w' := by
  have k := h.next hs hg
  exact ⟨k.src, k.gr, k.low, k.lst, k.own, fun _ => hj⟩
theorem SL.do9 (h : SL w0 s A n c zs v1 v5 q ms b4 b11 o w) (hs : Src w' s A n c zs) (hg : w.grownBy w' (some s)) (m : M) : SL w0 s A n c zs v1 v5 q ms b4 b11 { o with m := m } w' := by
  have k := h.next hs hg
  exact ⟨k.src, k.gr, k.low, k.lst, k.own, k.h4⟩
theorem Src.st6at (h : Src w s A n c zs) {q : Nat} (hq : s < q) (o : Nat) (m : M) : Src (Go.Proofs.YtchjegojcpbfpaaGreat.st6at w q o m) s A n c zs :=
  (((((h.cell_far (p := ⟨q, o, none⟩) hq _).cell_far (p := ⟨q, o + 1, none⟩) hq _).cell_far (p := ⟨q, o + 2, none⟩) hq _).cell_far (p := ⟨q, o + 3, none⟩) hq _).cell_far (p := ⟨q, o + 4, none⟩) hq _).cell_far (p := ⟨q, o + 5, none⟩) hq _
theorem grown_st6at {w0 w : World} {row : Option Nat} (h : w0.grownBy w row) {q : Nat} (hq : w0.heap.size ≤ q) (o : Nat) (m : M) : w0.grownBy (st6at w q o m) row :=
  grown_far (p := ⟨q, o + 5, none⟩) (grown_far (p := ⟨q, o + 4, none⟩) (grown_far (p := ⟨q, o + 3, none⟩) (grown_far (p := ⟨q, o + 2, none⟩) (grown_far (p := ⟨q, o + 1, none⟩) (grown_far (p := ⟨q, o, none⟩) h hq _) hq _) hq _) hq _) hq _) hq _
theorem SL.do11 {g5 n5 c5 : Nat} (h : SL w0 s A n c zs v1 (.slice (some ⟨g5, 0, none⟩) n5 c5) q ms true false o w) : SL w0 s A n c zs v1 (.slice (some ⟨g5, 0, none⟩) n5 c5) q ms true true o (st6at w g5 (o.j * 6) o.m) := by
  have hj := h.h4 rfl
  obtain ⟨ls, h1, h2⟩ := h.own
  obtain ⟨hgB, hgl, h6, hfr, hs⟩ := h1.spotAt (k := o.j) (by rw [h2]; exact hj)
  exact ⟨h.src.st6at (Nat.lt_of_lt_of_le h.low hgB) _ _, grown_st6at h.gr hgB _ _, h.low, by simp, ⟨_, hs o.m, by rw [List.length_set, h2]⟩, h.h4⟩
end
theorem ownB {g n c q : Nat} (h : (Value.slice (some ⟨g, 0, none⟩) n c).ownBlock = some q) : g = q := by injection h
def RetGB (B s : Nat) (A : Option Addr) (n c : Nat) (zs : List Int) (w : World) (e : Ending) (w' : World) : Prop := RetL B s A n c zs (fun ms => ms.length ≤ 7) w e w'
theorem OwM.sub {w0 w w' : World} {s : Nat} {v : Value} (h : w0.grownBy w (some s)) (hg : w.grownBy w' v.ownBlock) (hv : ∀ q, v.ownBlock = some q → w0.heap.size ≤ q) : w0.grownBy w' (some s) :=
  ⟨hg.os.trans h.os, hg.tape.trans h.tape, hg.output.trans h.output, Nat.le_trans h.size hg.size, fun q hq hs => (hg.block q (Nat.lt_of_lt_of_le hq h.size) (fun e => by have := hv q e.symm; omega)).trans (h.block q hq hs)⟩
set_option maxHeartbeats 1000000 in
theorem badList_any {s : Nat} {A : Option Addr} {n c : Nat} {zs : List Int} (v1 : Value) (ms : List M) (w : World) (hS : Src w s A n c zs) (B : Nat) (hB : s < B) (hB2 : B ≤ w.heap.size) (hv : OwM 31 w B v1 ms) (h1 : 1 ≤ ms.length) (h6 : ms.length ≤ 6) :
    Calls Tryz.prog 89 #[.pointer (some ⟨s, 0, none⟩), v1] w (RetGB B s A n c zs w) := by
  have HS := Lib.hid hS
  have hsl := hS.lt
  obtain ⟨g1, c1, rfl, _⟩ := hv.spot (k := 0) h1
  have hr : RdM w w.heap.size (some ⟨g1, 0, none⟩) ms := by
    obtain ⟨A2, c2, e, hr⟩ := hv.form
    injection e with e1 e2 e3
    rw [e1]; exact hr
  obtain ⟨n1, hn1⟩ : ∃ n1, n1 = ms.length := ⟨_, rfl⟩
  rw [← hn1] at hv h1 h6 ⊢
  have Hn := Lib.hid hn1
  have Hv := Lib.hid hv
  have Hr := Lib.hid hr
  have hlt := hv.lt g1 rfl
  clear hS hv hn1 hr
  go_enter Tryz.func89, Tryz.ntmps89
  go_wp2_with (at_builtin; refine wpList_catM rfl (.tmp 6) (.tmp 7) rfl w.heap.size _ [] ms rfl (OwM.made (Nat.le_refl _)) (some ⟨g1, 0, none⟩) n1 c1 rfl (fun h => by cases h) (Rd.more (Rd.alloc Hr.out (Nat.le_refl _) _) (by simp)) Hn.out.symm (by simp; omega) (by simp) ?_; intro v5 w1 ho' hgr; have Ho1 := Lib.hid ho'; have Hb1 := Lib.hid ((OwM.made (e := 31) (Nat.le_refl w.heap.size)).bel ((Below.refl w.heap.size w).alloc (Nat.le_refl _) (.cells #[] 31)) hgr (Nat.le_refl _) (by simp)); clear ho' hgr)
  refine (next_any 40 _ (HS.out.below Hb1.out)).mono ?_
  rintro e w2 ⟨r, rfl, hr, _, hS2, hg2⟩
  have HS2 := Lib.hid hS2
  have Hg2 := Lib.hid (grown_trans (grown_below Hb1.out _) hg2)
  have hz2 := Hg2.out.size
  have Hv2 := Lib.hid ((Hv.out.below Hb1.out (Nat.le_refl _)).by_s hg2 hB)
  have ho2 := Ho1.out.by_s hg2 hsl
  rw [List.nil_append] at ho2
  obtain ⟨g5, c5, rfl, hg5, _⟩ := ho2.spot (k := 0) (by rw [← Hn.out]; exact h1)
  rw [← Hn.out] at ho2 ⊢
  have Ho2 := Lib.hid ho2
  have hr0 := (hr (by decide)).1
  clear hr hS2 hg2 Hb1 Ho1 ho2
  by_cases r0 : r = 0
  · subst r0
    go_wp2_with fail
    go_ret
    have hb3 : Below w2.heap.size w2 (w2.alloc (.cells #[] 31)) := (Below.refl _ _).alloc (Nat.le_refl _) _
    exact ⟨_, [], rfl, OwM.made (Nat.le_trans hB2 hz2), by simp, HS2.out.below hb3, grown_trans Hg2.out (grown_below hb3 _)⟩
  by_cases r1 : r = 1
  · subst r1
    go_wp2_with fail
    refine (spoil_any w2 HS2.out).mono ?_
    rintro e w3 ⟨m, rfl, _, hS3, hg3⟩
    have Ho3 := Lib.hid (Ho2.out.by_s hg3 hsl)
    have Hg3 := Lib.hid (grown_trans Hg2.out hg3)
    have HS3 := Lib.hid hS3
    have hz3 := Hg3.out.size
    clear hS3 hg3
    go_wp2_with (at_builtin; refine wpList_pushM rfl (.tmp 16) (.tmp 19) rfl w.heap.size (.slice (some ⟨g5, 0, none⟩) n1 c5) ms rfl (Ho3.out.alloc _) n1 Hn.out.symm w3.heap.size 1 m rfl (Blk.six (Blk.new _ _ _)) (by omega) (by simp; omega) (w3.heap.size + 1) (by simp) ?_; intro g' cap w9 ho' hgr hg' hlt'; have Ho9 := Lib.hid ho'; have Hgr := Lib.hid hgr; clear ho' hgr hg' hlt')
    go_ret
    have hb3 : Below w3.heap.size w3 (w3.alloc (.cells (mc m) 31)) := (Below.refl _ _).alloc (Nat.le_refl _) _
    refine ⟨_, ms ++ [m], rfl, Ho9.out.mono hB2, by simp; have := Hn.out; omega, (HS3.out.below hb3).grown Hgr.out (fun q hq => ?_), OwM.sub (grown_trans Hg3.out (grown_below hb3 _)) Hgr.out (fun q hq => ?_)⟩
    · have := ownB hq; omega
    · have := ownB hq; omega
  by_cases r2 : r = 2
  · subst r2
    have hne : g1 ≠ g5 := by omega
    go_wp2_with fail
    go_loopw [5] (fun v wr => ∃ (g q c' : Nat) (ls : List M), v = .slice (some ⟨g, 0, none⟩) q c' ∧ ls.length = q ∧ q ≤ 7 ∧ OwM 31 wr w.heap.size (.slice (some ⟨g, 0, none⟩) q c') ls ∧ OwM 31 wr B (.slice (some ⟨g1, 0, none⟩) n1 c1) ms ∧ Src wr s A n c zs ∧ w.grownBy wr (some s)) (fun v _ => match v with | .slice _ q _ => 8 - q | _ => 0)
    case atStart => exact ⟨g5, n1, c5, ms, rfl, Hn.out.symm, by omega, Ho2.out, Hv2.out, HS2.out, Hg2.out⟩
    case round =>
      clear Ho2 Hv2 HS2 Hg2
      obtain ⟨g, q, c', ls, rfl, hl, hq, ho, hv, hS, hg⟩ := hrel
      have HS := Lib.hid hS
      have Ho := Lib.hid ho
      have Hl := Lib.hid hl
      have Hg := Lib.hid hg
      have Hv := Lib.hid hv
      have hz := hg.size
      have hgg := ho.lt g rfl
      clear hS ho hl hg hv
      by_cases hq7 : q < 7
      · have hqz : (q : Int) ≤ 6 := by omega
        obtain ⟨_, hgl, h6, _⟩ := Hv.out.spotAt (k := 0) (by rw [← Hn.out]; exact h1)
        rw [Nat.zero_mul] at h6
        obtain ⟨x0, x1, x2, x3, x4, x5⟩ := h6
        obtain ⟨m, hm⟩ : ∃ m, m = gm ms 0 := ⟨_, rfl⟩
        rw [← hm] at x0 x1 x2 x3 x4 x5
        clear hm
        go_wp2_with (at_builtin; refine wpList_pushM rfl (.tmp 26) (.tmp 30) rfl w.heap.size (.slice (some ⟨g, 0, none⟩) q c') ls rfl (Ho.out.alloc _) q Hl.out wr.heap.size 1 m rfl (Blk.six (Blk.new _ _ _)) (by omega) (by simp; omega) (wr.heap.size + 1) (by simp) ?_; intro g' cap w9 ho' hgr hg' hlt'; have Ho9 := Lib.hid ho'; have Hgr := Lib.hid hgr; clear ho' hgr hg' hlt')
        have hb3 : Below wr.heap.size wr (wr.alloc (.cells (mc m) 31)) := (Below.refl _ _).alloc (Nat.le_refl _) _
        have HG : Hid (w.grownBy w9 (some s)) := OwM.sub (grown_trans Hg.out (grown_below hb3 _)) Hgr.out (fun q hq => by have := ownB hq; omega)
        have HSS : Hid (Src w9 s A n c zs) := (HS.out.below hb3).grown Hgr.out (fun q hq => by have := ownB hq; omega)
        have HVV : Hid (OwM 31 w9 B (.slice (some ⟨g1, 0, none⟩) n1 c1) ms) := (Hv.out.below hb3 (Nat.le_refl _)).keep (fun q hq => Hgr.out.block q (Nat.lt_of_lt_of_le (by have := ownB hq; omega) hb3.size) (by have := ownB hq; intro e; injection e with e; have e : q = g := e; omega))
        have HL : Hid ((ls ++ [m]).length = q + 1) := by show _ = _; rw [List.length_append, Hl.out]; rfl
        clear hb3 Hgr Ho Hv Hl HS Hg
        go_roundw
        case rel => exact ⟨g', q + 1, cap, ls ++ [m], rfl, HL.out, by omega, Ho9.out, HVV.out, HSS.out, HG.out⟩
        case measure => simp; omega
      · have hqz : ¬ ((q : Int) ≤ 6) := by omega
        go_wp2_with fail
        go_ret
        exact ⟨_, ls, rfl, Ho.out.mono hB2, by have := Hl.out; omega, HS.out, Hg.out⟩
  by_cases r3 : r = 3
  · subst r3
    have D1 : Hid (SL w s A n c zs (.slice (some ⟨g1, 0, none⟩) n1 c1) (.slice (some ⟨g5, 0, none⟩) n1 c5) n1 ms false false ⟨0, M0⟩ w2) :=
      ⟨HS2.out, Hg2.out, hsl, fun _ => ⟨⟨B, hB, Hv2.out⟩, fun q hq => by have := ownB hq; omega⟩, ⟨ms, Ho2.out, Hn.out.symm⟩, by simp⟩
    have Hlen : Hid (0 < ms.length) := by show 0 < ms.length; rw [← Hn.out]; exact h1
    have h1z : (0 : Int) < (n1 : Int) := by omega
    clear Hv2 Ho2 HS2 Hg2
    go_wp2_with fail
    refine wp_region_flags [] rfl (by kernel_rfl) (by kernel_rfl) [] (by kernel_rfl) _
      (fun o : BL => [.slice (some ⟨g5, 0, none⟩) n1 c5, .pointer (some ⟨s, 0, none⟩), .slice (some ⟨g5, 0, none⟩) n1 c5, I n1, I o.j, .pointer (some ⟨s, 0, none⟩), .slice (some ⟨g1, 0, none⟩) n1 c1, .pointer (some ⟨g1, 0, none⟩), .agg (mc (gm ms 0)), .agg (mc o.m), .pointer (some ⟨g5, o.j * 6, none⟩), undef])
      (by intro o; simp only [putAll, List.setIfInBounds_toArray, List.set_cons_succ, List.set_cons_zero]; rfl)
      [] rfl _
      (by intro o; simp only [setAll, List.setIfInBounds_toArray, List.set_cons_succ, List.set_cons_zero]; rfl) (by kernel_rfl)
      (fun d o w' => SL w s A n c zs (.slice (some ⟨g1, 0, none⟩) n1 c1) (.slice (some ⟨g5, 0, none⟩) n1 c5) n1 ms (d 4) (d 11) o w')
      ⟨0, M0⟩ (D1.out.next (D1.out.src.below (Below.refl _ _).drew) (grown_below (Below.refl _ _).drew _)) ?hop ?hQ
    case hop =>
      refine ⟨?_, ?_, ?_, ?_, ?_, ?_, ?_, ?_, ?_, ?_, ?_, ?_, trivial⟩
      · refine ⟨rfl, Flag.pure (fun _ _ _ h => h) fun d c w' hd hdeps hcl hS => ?_⟩
        skip
        clear hS hdeps hcl hd
        unfold Oper.wp
        go_simp
        exact ⟨rfl, fun t ht => by injection ht with ht; subst ht; rfl, rfl⟩
      · refine ⟨rfl, Flag.pure (fun _ _ _ h => h) fun d c w' hd hdeps hcl hS => ?_⟩
        skip
        clear hS hdeps hcl hd
        unfold Oper.wp
        go_simp
        exact ⟨rfl, fun t ht => by injection ht with ht; subst ht; rfl, rfl⟩
      · refine ⟨rfl, Flag.pure (fun _ _ _ h => h) fun d c w' hd hdeps hcl hS => ?_⟩
        skip
        clear hS hdeps hcl hd
        unfold Oper.wp
        go_simp
        exact ⟨rfl, fun t ht => by injection ht with ht; subst ht; rfl, rfl⟩
      · refine ⟨rfl, Flag.pure (fun _ _ _ h => h) fun d c w' hd hdeps hcl hS => ?_⟩
        skip
        clear hS hdeps hcl hd
        unfold Oper.wp
        go_simp
        exact ⟨rfl, fun t ht => by injection ht with ht; subst ht; rfl, rfl⟩
      · refine ⟨rfl, fun d o w' hd hdeps hcl hS => ?_⟩
        have hS : SL w s A n c zs (.slice (some ⟨g1, 0, none⟩) n1 c1) (.slice (some ⟨g5, 0, none⟩) n1 c5) n1 ms (d 4) (d 11) o w' := hS
        have d10 := hcl.down (k := 10) (j := 4) rfl (by kernel_rfl) hd
        rw [hd] at hS
        have HSB := Lib.hid hS
        clear hS hdeps hcl
        unfold Oper.wp
        go_simp
        refine (next_any n1 w' HSB.out.src).mono ?_
        rintro e w6 ⟨r, rfl, hr, _, hS6, hg6⟩
        obtain ⟨hr0, hr5⟩ := hr (by omega)
        obtain ⟨j, hj⟩ : ∃ j : Nat, (j : Int) = r := ⟨r.toNat, by omega⟩
        subst hj
        refine ⟨({ o with j := j } : BL), [(39, I j), (45, .pointer (some ⟨g5, j * 6, none⟩))], ⟨rfl, fun t ht => by injection ht with ht; subst ht; rfl⟩, ?_, rfl, ?_⟩
        · exact HSB.out.do4 hS6 hg6 (by omega)
        · intro p hp
          simp at hp
          rcases hp with rfl | rfl
          · exact .inl rfl
          · exact .inr ⟨10, _, rfl, rfl, by decide, d10⟩
      · refine ⟨rfl, Flag.pure (fun _ _ _ h => h) fun d c w' hd hdeps hcl hS => ?_⟩
        skip
        clear hS hdeps hcl hd
        unfold Oper.wp
        go_simp
        exact ⟨rfl, fun t ht => by injection ht with ht; subst ht; rfl, rfl⟩
      · refine ⟨rfl, Flag.pure (fun _ _ _ h => h) fun d c w' hd hdeps hcl hS => ?_⟩
        skip
        clear hS hdeps hcl hd
        unfold Oper.wp
        go_simp
        exact ⟨rfl, fun t ht => by injection ht with ht; subst ht; rfl, rfl⟩
      · refine ⟨rfl, Flag.pure (fun _ _ _ h => h) fun d c w' hd hdeps hcl hS => ?_⟩
        have h1p : 0 < n1 := by omega
        clear hS hdeps hcl hd
        unfold Oper.wp
        go_simp
        exact ⟨rfl, fun t ht => by injection ht with ht; subst ht; rfl, rfl⟩
      · refine ⟨rfl, fun d o w' hd hdeps hcl hS => ?_⟩
        have hS : SL w s A n c zs (.slice (some ⟨g1, 0, none⟩) n1 c1) (.slice (some ⟨g5, 0, none⟩) n1 c5) n1 ms (d 4) (d 11) o w' := hS
        have d11 : d 11 = false := hcl.down (k := 11) (j := 9) rfl (by kernel_rfl) (hcl.down (k := 9) (j := 8) rfl (by kernel_rfl) hd)
        obtain ⟨_, _, hlo⟩ := (hS.lst d11).1
        obtain ⟨_, hgl, h6, _⟩ := hlo.spotAt (k := 0) Hlen.out
        clear hlo
        rw [Nat.zero_mul] at h6
        obtain ⟨x0, x1, x2, x3, x4, x5⟩ := h6
        have Hs := Lib.hid hS
        clear hS hdeps hcl hd d11
        unfold Oper.wp
        go_simp
        exact ⟨o, [], ⟨rfl, fun t ht => by injection ht with ht; subst ht; rfl⟩, Hs.out, rfl, by simp⟩
      · refine ⟨rfl, fun d o w' hd hdeps hcl hS => ?_⟩
        have hS : SL w s A n c zs (.slice (some ⟨g1, 0, none⟩) n1 c1) (.slice (some ⟨g5, 0, none⟩) n1 c5) n1 ms (d 4) (d 11) o w' := hS
        have HSB := Lib.hid hS
        clear hS hdeps hcl
        unfold Oper.wp
        go_simp
        refine (bad_any (gm ms 0) w' HSB.out.src).mono ?_
        rintro e w6 ⟨m, rfl, _, hS6, hg6⟩
        refine FlagPost.own ({ o with m := m } : BL) 44 (.agg (mc m)) rfl rfl rfl ?_ rfl
        exact HSB.out.do9 hS6 hg6 m
      · refine ⟨rfl, fun d o w' hd hdeps hcl hS => ?_⟩
        have hS : SL w s A n c zs (.slice (some ⟨g1, 0, none⟩) n1 c1) (.slice (some ⟨g5, 0, none⟩) n1 c5) n1 ms (d 4) (d 11) o w' := hS
        have d4 := hdeps 4 (by kernel_rfl)
        have hj : o.j < n1 := hS.h4 d4
        have hjz : (o.j : Int) < (n1 : Int) := by omega
        have Hs := Lib.hid hS
        clear hS hdeps hcl hd
        unfold Oper.wp
        go_simp
        exact ⟨o, [], ⟨rfl, fun t ht => by injection ht with ht; subst ht; rfl⟩, Hs.out, rfl, by simp⟩
      · refine ⟨rfl, fun d o w' hd hdeps hcl hS => ?_⟩
        have hS : SL w s A n c zs (.slice (some ⟨g1, 0, none⟩) n1 c1) (.slice (some ⟨g5, 0, none⟩) n1 c5) n1 ms (d 4) (d 11) o w' := hS
        have d10 := hdeps 10 (by kernel_rfl)
        have d4 := hcl.up (k := 10) (j := 4) rfl (by kernel_rfl) d10
        rw [hd, d4] at hS
        obtain ⟨ls, hw1, hw2⟩ := hS.own
        obtain ⟨_, hgl, h6, hfr, _⟩ := hw1.spotAt (k := o.j) (by rw [hw2]; exact hS.h4 rfl)
        obtain ⟨x0, x1, x2, x3, x4, x5⟩ := h6
        have z0 := hfr (o.j * 6)
        have z1 := hfr (o.j * 6 + 1)
        have z2 := hfr (o.j * 6 + 2)
        have z3 := hfr (o.j * 6 + 3)
        have z4 := hfr (o.j * 6 + 4)
        have z5 := hfr (o.j * 6 + 5)
        have Hs := Lib.hid hS.do11
        clear hS hdeps hcl hw1 hw2 hfr
        unfold Oper.wp
        go_simp
        refine ⟨o, [], ⟨rfl, fun t ht => by cases ht⟩, ?_, rfl, by simp⟩
        show SL _ _ _ _ _ _ _ _ _ _ (d 4) true _ _
        rw [d4]
        exact Hs.out
    case hQ =>
    intro fl o we hall hS
    have hS : SL w s A n c zs (.slice (some ⟨g1, 0, none⟩) n1 c1) (.slice (some ⟨g5, 0, none⟩) n1 c5) n1 ms (fl 4) (fl 11) o we := hS
    have HS3 := Lib.hid hS
    clear hS hall
    go_wp2_with fail
    go_ret
    obtain ⟨ls, hw1, hw2⟩ := HS3.out.own
    exact ⟨_, ls, rfl, hw1.mono hB2, by omega, HS3.out.src, HS3.out.gr⟩
  have h40 : ¬ (r < 0) := by omega
  go_wp2_with fail
  go_ret
  exact ⟨_, ms, rfl, Hv2.out, by have := Hn.out; omega, HS2.out, Hg2.out⟩
theorem l02Draw_any {s : Nat} {A : Option Addr} {n c : Nat} {zs : List Int} (w : World) (hS : Src w s A n c zs) :
    Calls Tryz.prog 47 #[.pointer (some ⟨s, 0, none⟩)] w (RetGB w.heap.size s A n c zs w) := by
  have HS := Lib.hid hS
  have hsl := hS.lt
  clear hS
  go_enter Tryz.func47, Tryz.ntmps47
  go_wp2_with fail
  refine (lists_any w HS.out).mono ?_
  rintro e w2 ⟨v, ms, rfl, ho, ⟨k, _, _, hp⟩, hS2, hg2⟩
  have Hg := Lib.hid hg2
  have HS2 := Lib.hid hS2
  have Ho := Lib.hid ho
  have hp1 := hp.1
  have hp2 := hp.2.1
  clear hS2 hg2 ho hp
  go_wp2_with fail
  refine (badList_any v ms w2 HS2.out w.heap.size hsl Hg.out.size Ho.out hp1 hp2).mono ?_
  rintro e w3 ⟨v, ms, rfl, ho, hp, hS3, hg3⟩
  have Ho := Lib.hid ho
  have HS3 := Lib.hid hS3
  have Hg3 := Lib.hid (grown_trans Hg.out hg3)
  have Hp := Lib.hid hp
  clear hS3 hg3 ho hp
  go_wp2_with fail
  go_ret
  exact ⟨v, ms, rfl, Ho.out, Hp.out, HS3.out, Hg3.out⟩
end Go.Proofs.YtchjegojcpbfpaaGreat

namespace Go.Proofs.YtchjegojcpbfpaaGreat
open Go.RowKit
set_option maxRecDepth 100000
set_option linter.unusedSimpArgs false
set_option linter.unusedVariables false
def LQ (ms : List M) : Prop := ∃ k : Nat, 1 ≤ k ∧ k ≤ 5 ∧ LP k ms
theorem LQ.len {ms : List M} (h : LQ ms) : 1 ≤ ms.length ∧ ms.length ≤ 6 := by
  obtain ⟨k, _, _, h1, h2, _⟩ := h
  exact ⟨h1, h2⟩
theorem OwM.rdM {w : World} {B n c : Nat} {A : Option Addr} {ms : List M} (h : OwM 31 w B (.slice A n c) ms) : RdM w w.heap.size A ms := by
  obtain ⟨A2, c2, e, hr⟩ := h.form
  injection e with e1 e2 e3
  rw [e1]; exact hr
def RetGD (w : World) (e : Ending) (w' : World) : Prop := ∃ (A : Option Addr) (n c : Nat) (ms : List M), e = .returned (.slice A n c) ∧ n = ms.length ∧ OwM 31 w' w.heap.size (.slice A n c) ms ∧ n ≤ 7 ∧ Below w.heap.size w w'
theorem RetL.d {B s : Nat} {A : Option Addr} {n c : Nat} {zs : List Int} {w w1 w2 : World} {e : Ending} (h : RetGB B s A n c zs w1 e w2) (hBw : w.heap.size ≤ B) (hl : s < w1.heap.size) (hs : w.heap.size ≤ s) (hb : Below w.heap.size w w1) : RetGD w e w2 := by
  obtain ⟨v, ms, rfl, ho, hp, _, hg⟩ := h
  obtain ⟨A1, c1, rfl, _⟩ := ho.form
  exact ⟨A1, ms.length, c1, ms, rfl, rfl, ho.mono hBw, hp, hb.trans ((bel_s hg (Nat.le_of_lt hl)).mono hs)⟩
end Go.Proofs.YtchjegojcpbfpaaGreat

namespace Go.Proofs.YtchjegojcpbfpaaGreat
open Go.RowKit
set_option maxRecDepth 100000
set_option linter.unusedSimpArgs false
set_option linter.unusedVariables false
theorem RdM.by_s {w w' : World} {s : Nat} {A : Option Addr} {n c : Nat} {zs : List Int} {L : Option Addr} {ms : List M} (h : RdM w w.heap.size L ms) (hS : Src w s A n c zs) (hg : w.grownBy w' (some s)) : RdM w' w'.heap.size L ms := by
  refine ⟨h.1, fun hn => ?_⟩
  obtain ⟨b, off, e, hb, hc⟩ := h.2 hn
  have hne : b ≠ s := by
    rintro rfl
    obtain ⟨a, x, _, _, hbl⟩ := hS.blk
    have h5 : 5 < (mcs ms).length := by rw [mcs_length]; omega
    have := hc 5 _ (List.getElem?_eq_getElem h5)
    rw [hbl.cell, Array.getElem?_eq_none (by simp)] at this
    cases this
  exact ⟨b, off, e, Nat.lt_of_lt_of_le hb hg.size, fun j u hu => (World.cell?_of_block (hg.block b hb (fun e => hne (by injection e with e)))).trans (hc j u hu)⟩
theorem RdM.far6 {w : World} {L : Option Addr} {ms : List M} (h : RdM w w.heap.size L ms) {q : Nat} (hq : ∀ a, L = some a → q < a.block) (m : M) : RdM (st6 w q m) (st6 w q m).heap.size L ms := by
  refine ⟨h.1, fun hn => ?_⟩
  obtain ⟨b, off, e, hb, hc⟩ := h.2 hn
  have hne : b ≠ q := by have := hq _ e; simp only at this; omega
  have hs : (st6 w q m).heap.size = w.heap.size := by simp [st6, World.setCell]
  refine ⟨b, off, e, by rw [hs]; exact hb, fun j u hu => ?_⟩
  have f := fun (w : World) (o : Nat) (v : Value) => World.cell?_of_block (w := w) (w' := w.setCell ⟨q, o, none⟩ v) (a := ⟨b, off + j, none⟩) (Below.heap_setCell w ⟨q, o, none⟩ v b hne)
  exact ((f _ _ _).trans ((f _ _ _).trans ((f _ _ _).trans ((f _ _ _).trans ((f _ _ _).trans (f _ _ _)))))).trans (hc j u hu)
structure WS (w0 : World) (s : Nat) (A : Option Addr) (n c : Nat) (zs : List Int) (v5 : Value) (ms : List M) (q6 q7 : Nat) (f g : M) (w : World) : Prop where
  src : Src w s A n c zs
  gr : w0.grownBy w (some s)
  low : s < w0.heap.size
  lst : OwM 31 w (w0.heap.size + 2) v5 ms
  far : ∀ b, v5.ownBlock = some b → b < q6 ∧ b < q7
  c3 : Blk w w0.heap.size 31 (mc M0)
  c4 : Blk w (w0.heap.size + 1) 31 (mc M0)
  c6 : Blk w q6 31 (mc f)
  c7 : Blk w q7 31 (mc g)
  h6 : w0.heap.size + 2 ≤ q6
  h7 : w0.heap.size + 2 ≤ q7
  ne : q6 ≠ q7
section
variable {w0 w w' : World} {s : Nat} {A : Option Addr} {n c : Nat} {zs : List Int} {v5 : Value} {ms : List M} {q6 q7 : Nat} {f g : M}
theorem OwM.st6f {B : Nat} {v : Value} (h : OwM 31 w B v ms) {q : Nat} (hq : v.ownBlock ≠ some q) (m : M) : OwM 31 (Go.Proofs.YtchjegojcpbfpaaGreat.st6 w q m) B v ms :=
  (((((h.far (p := ⟨q, 0, none⟩) hq _).far (p := ⟨q, 1, none⟩) hq _).far (p := ⟨q, 2, none⟩) hq _).far (p := ⟨q, 3, none⟩) hq _).far (p := ⟨q, 4, none⟩) hq _).far (p := ⟨q, 5, none⟩) hq _
theorem Blk.st6f {b : Nat} {t : TypeId} {cs : Array Value} (h : Blk w b t cs) {q : Nat} (hq : b ≠ q) (m : M) : Blk (Go.Proofs.YtchjegojcpbfpaaGreat.st6 w q m) b t cs :=
  (((((h.far (p := ⟨q, 0, none⟩) hq _).far (p := ⟨q, 1, none⟩) hq _).far (p := ⟨q, 2, none⟩) hq _).far (p := ⟨q, 3, none⟩) hq _).far (p := ⟨q, 4, none⟩) hq _).far (p := ⟨q, 5, none⟩) hq _
theorem WS.next (h : WS w0 s A n c zs v5 ms q6 q7 f g w) (hs : Src w' s A n c zs) (hg : w.grownBy w' (some s)) : WS w0 s A n c zs v5 ms q6 q7 f g w' :=
  have hl := h.low
  have h6 := h.h6
  have h7 := h.h7
  ⟨hs, grown_trans h.gr hg, h.low, h.lst.by_s hg (by omega), h.far, h.c3.grown hg (fun e => by injection e with e; omega), h.c4.grown hg (fun e => by injection e with e; omega), h.c6.grown hg (fun e => by injection e with e; omega), h.c7.grown hg (fun e => by injection e with e; omega), h.h6, h.h7, h.ne⟩
theorem WS.below (h : WS w0 s A n c zs v5 ms q6 q7 f g w) (hb : Below w.heap.size w w') : WS w0 s A n c zs v5 ms q6 q7 f g w' := h.next (h.src.below hb) (grown_below hb _)
end
structure RG where
  q6 : Nat
  q7 : Nat
structure SR (w1 : World) (f g : M) (b9 b10 b11 b12 : Bool) (o : RG) (w : World) : Prop where
  bel : Below w1.heap.size w1 w
  c6 : b9 = true → Blk w o.q6 31 (mc (if b11 then f else M0)) ∧ w1.heap.size ≤ o.q6
  c7 : b10 = true → Blk w o.q7 31 (mc (if b12 then g else M0)) ∧ w1.heap.size ≤ o.q7
  ne : b9 = true → b10 = true → o.q6 ≠ o.q7
section
variable {w1 w w' : World} {f g : M} {b9 b10 b11 b12 : Bool} {o : RG}
theorem SR.do9 (h : SR w1 f g false b10 false b12 o w) : SR w1 f g true b10 false b12 { o with q6 := w.heap.size } (w.alloc (.cells (mc M0) 31)) :=
  ⟨h.bel.alloc h.bel.size _, fun _ => ⟨Blk.new w _ _, h.bel.size⟩, fun e => ⟨(h.c7 e).1.alloc _, (h.c7 e).2⟩, fun _ e => by have := (h.c7 e).1.lt; show w.heap.size ≠ o.q7; omega⟩
theorem SR.do10 (h : SR w1 f g b9 false b11 false o w) : SR w1 f g b9 true b11 false { o with q7 := w.heap.size } (w.alloc (.cells (mc M0) 31)) :=
  ⟨h.bel.alloc h.bel.size _, fun e => ⟨(h.c6 e).1.alloc _, (h.c6 e).2⟩, fun _ => ⟨Blk.new w _ _, h.bel.size⟩, fun e _ => by have := (h.c6 e).1.lt; show o.q6 ≠ w.heap.size; omega⟩
theorem SR.do11 (h : SR w1 f g true true false b12 o w) : SR w1 f g true true true b12 o (st6 w o.q6 f) :=
  ⟨below_st6 h.bel (h.c6 rfl).2 f, fun _ => ⟨(h.c6 rfl).1.st6 f, (h.c6 rfl).2⟩, fun e => ⟨(h.c7 e).1.st6f (Ne.symm (h.ne rfl rfl)) f, (h.c7 e).2⟩, h.ne⟩
theorem SR.do12 (h : SR w1 f g true true b11 false o w) : SR w1 f g true true b11 true o (st6 w o.q7 g) :=
  ⟨below_st6 h.bel (h.c7 rfl).2 g, fun e => ⟨(h.c6 e).1.st6f (h.ne rfl rfl) g, (h.c6 e).2⟩, fun _ => ⟨(h.c7 rfl).1.st6 g, (h.c7 rfl).2⟩, h.ne⟩
end
structure EG where
  A : Option Addr
  q : Nat
  c : Nat
  m3 : M
  m4 : M
structure SE (w0 : World) (s : Nat) (A : Option Addr) (n c : Nat) (zs : List Int) (v5 : Value) (ms : List M) (q6 q7 : Nat) (f g : M) (b2 b10 b11 : Bool) (o : EG) (w : World) : Prop where
  src : Src w s A n c zs
  gr : w0.grownBy w (some s)
  low : s < w0.heap.size
  lst : b2 = false → OwM 31 w (w0.heap.size + 2) v5 ms
  new : b2 = true → ∃ ls, OwM 31 w (w0.heap.size + 2) (.slice o.A o.q o.c) ls ∧ o.q = ls.length ∧ o.q ≤ 7
  c3 : Blk w w0.heap.size 31 (mc (if b10 then o.m3 else M0))
  c4 : Blk w (w0.heap.size + 1) 31 (mc (if b11 then o.m4 else M0))
  c6 : Blk w q6 31 (mc f)
  c7 : Blk w q7 31 (mc g)
  h6 : w0.heap.size + 2 ≤ q6
  h7 : w0.heap.size + 2 ≤ q7
section
variable {w0 w w' : World} {s : Nat} {A : Option Addr} {n c : Nat} {zs : List Int} {v5 : Value} {ms : List M} {q6 q7 : Nat} {f g : M} {b2 b10 b11 : Bool} {o : EG}
theorem SE.next (h : SE w0 s A n c zs v5 ms q6 q7 f g b2 b10 b11 o w) (hs : Src w' s A n c zs) (hg : w.grownBy w' (some s)) : SE w0 s A n c zs v5 ms q6 q7 f g b2 b10 b11 o w' :=
  have hl := h.low
  have h6 := h.h6
  have h7 := h.h7
  ⟨hs, grown_trans h.gr hg, h.low, fun e => (h.lst e).by_s hg (by omega), fun e => by obtain ⟨ls, h1, h2⟩ := h.new e; exact ⟨ls, h1.by_s hg (by omega), h2⟩,
    h.c3.grown hg (fun e => by injection e with e; omega), h.c4.grown hg (fun e => by injection e with e; omega), h.c6.grown hg (fun e => by injection e with e; omega), h.c7.grown hg (fun e => by injection e with e; omega), h.h6, h.h7⟩
theorem SE.do2 (h : SE w0 s A n c zs v5 ms q6 q7 f g false b10 b11 o w) (hs : Src w' s A n c zs) (hg : w.grownBy w' (some s)) {ls : List M} {A' : Option Addr} {q c' : Nat} (ho : OwM 31 w' (w0.heap.size + 2) (.slice A' q c') ls) (hq : q = ls.length) (h7 : q ≤ 7) :
    SE w0 s A n c zs v5 ms q6 q7 f g true b10 b11 { o with A := A', q := q, c := c' } w' := by
  have k := h.next hs hg
  exact ⟨k.src, k.gr, k.low, by simp, fun _ => ⟨ls, ho, hq, h7⟩, k.c3, k.c4, k.c6, k.c7, k.h6, k.h7⟩
theorem SE.do5 (h : SE w0 s A n c zs v5 ms q6 q7 f g b2 false b11 o w) (hs : Src w' s A n c zs) (hg : w.grownBy w' (some s)) (m : M) : SE w0 s A n c zs v5 ms q6 q7 f g b2 false b11 { o with m3 := m } w' := by
  have k := h.next hs hg
  exact ⟨k.src, k.gr, k.low, k.lst, k.new, k.c3, k.c4, k.c6, k.c7, k.h6, k.h7⟩
theorem OwM.no {B : Nat} {v : Value} (h : OwM 31 w B v ms) {q : Nat} (hq : q < B) : v.ownBlock ≠ some q := fun e => by have := (h.lt _ e).1; omega
theorem SE.do10 (h : SE w0 s A n c zs v5 ms q6 q7 f g b2 false b11 o w) : SE w0 s A n c zs v5 ms q6 q7 f g b2 true b11 o (st6 w w0.heap.size o.m3) :=
  have h6 := h.h6
  have h7 := h.h7
  ⟨h.src.st6 h.low _, grown_st6 h.gr (Nat.le_refl _) _, h.low, fun e => (h.lst e).st6f ((h.lst e).no (by omega)) _, fun e => by obtain ⟨ls, h1, h2⟩ := h.new e; exact ⟨ls, h1.st6f (h1.no (by omega)) _, h2⟩,
    h.c3.st6 _, h.c4.st6f (by omega) _, h.c6.st6f (by omega) _, h.c7.st6f (by omega) _, h.h6, h.h7⟩
theorem SE.do11 (h : SE w0 s A n c zs v5 ms q6 q7 f g b2 b10 false o w) : SE w0 s A n c zs v5 ms q6 q7 f g b2 b10 true o (st6 w (w0.heap.size + 1) o.m4) :=
  have h6 := h.h6
  have h7 := h.h7
  have hl := h.low
  ⟨h.src.st6 (by omega) _, grown_st6 h.gr (by omega) _, h.low, fun e => (h.lst e).st6f ((h.lst e).no (by omega)) _, fun e => by obtain ⟨ls, h1, h2⟩ := h.new e; exact ⟨ls, h1.st6f (h1.no (by omega)) _, h2⟩,
    h.c3.st6f (by omega) _, h.c4.st6 _, h.c6.st6f (by omega) _, h.c7.st6f (by omega) _, h.h6, h.h7⟩
end
end Go.Proofs.YtchjegojcpbfpaaGreat

namespace Go.Proofs.YtchjegojcpbfpaaGreat
open Go.RowKit
set_option maxRecDepth 100000
set_option linter.unusedSimpArgs false
set_option linter.unusedVariables false
theorem elR_pos {ms xs : List M} (h : elC ms xs = 0) : 0 < (elR ms xs).length := by
  obtain ⟨E, ps, hE⟩ := elC_el h
  rw [hE.r]; exact hE.pos
end Go.Proofs.YtchjegojcpbfpaaGreat

namespace Go.Proofs.YtchjegojcpbfpaaGreat
open Go.RowKit
set_option maxRecDepth 100000
set_option linter.unusedSimpArgs false
set_option linter.unusedVariables false
def RetD1 (w : World) (e : Ending) (w' : World) : Prop :=
  ∃ (A : Option Addr) (q c : Nat) (ls : List M) (f : M), e = .returned (.tuple #[.slice A q c, .agg (mc f)]) ∧ q = ls.length ∧ OwM 31 w' w.heap.size (.slice A q c) ls ∧ q ≤ 7 ∧ Below w.heap.size w w'
structure SD1 (w0 : World) (v : Value) (ms : List M) (q5 : Nat) (f : M) (b3 : Bool) (w : World) : Prop where
  bel : Below w0.heap.size w0 w
  lst : OwM 31 w (w0.heap.size + 1) v ms
  c3 : Blk w w0.heap.size 31 (mc (if b3 then f else M0))
  c5 : Blk w q5 31 (mc f)
  h5 : w0.heap.size + 1 ≤ q5
theorem SD1.do3 {w0 w : World} {v : Value} {ms : List M} {q5 : Nat} {f : M} (h : SD1 w0 v ms q5 f false w) : SD1 w0 v ms q5 f true (st6 w w0.heap.size f) :=
  have h5 := h.h5
  ⟨below_st6 h.bel (Nat.le_refl _) f, h.lst.st6f (h.lst.no (by omega)) f, h.c3.st6 f, h.c5.st6f (by omega) f, h.h5⟩
structure SD2 (w0 : World) (v : Value) (ms : List M) (q6 q7 : Nat) (f g : M) (b3 b4 : Bool) (w : World) : Prop where
  bel : Below w0.heap.size w0 w
  lst : OwM 31 w (w0.heap.size + 2) v ms
  c3 : Blk w w0.heap.size 31 (mc (if b3 then f else M0))
  c4 : Blk w (w0.heap.size + 1) 31 (mc (if b4 then g else M0))
  c6 : Blk w q6 31 (mc f)
  c7 : Blk w q7 31 (mc g)
  h6 : w0.heap.size + 2 ≤ q6
  h7 : w0.heap.size + 2 ≤ q7
section
variable {w0 w : World} {v : Value} {ms : List M} {q6 q7 : Nat} {f g : M} {b3 b4 : Bool}
theorem SD2.do3 (h : SD2 w0 v ms q6 q7 f g false b4 w) : SD2 w0 v ms q6 q7 f g true b4 (st6 w w0.heap.size f) :=
  have h6 := h.h6
  have h7 := h.h7
  ⟨below_st6 h.bel (Nat.le_refl _) f, h.lst.st6f (h.lst.no (by omega)) f, h.c3.st6 f, h.c4.st6f (by omega) f, h.c6.st6f (by omega) f, h.c7.st6f (by omega) f, h.h6, h.h7⟩
theorem SD2.do4 (h : SD2 w0 v ms q6 q7 f g b3 false w) : SD2 w0 v ms q6 q7 f g b3 true (st6 w (w0.heap.size + 1) g) :=
  have h6 := h.h6
  have h7 := h.h7
  ⟨below_st6 h.bel (by omega) g, h.lst.st6f (h.lst.no (by omega)) g, h.c3.st6f (by omega) g, h.c4.st6 g, h.c6.st6f (by omega) g, h.c7.st6f (by omega) g, h.h6, h.h7⟩
end
structure SD3 (w0 : World) (s : Nat) (A : Option Addr) (n c : Nat) (zs : List Int) (v : Value) (ms : List M) (q6 q7 : Nat) (f g : M) (b4 b6 b7 : Bool) (w : World) : Prop where
  sd : SD2 w0 v ms q6 q7 f g b6 b7 w
  src : b4 = false → Src w s A n c zs
  low : w0.heap.size + 2 ≤ s
  lt : s < q6 ∧ s < q7
  nb : v.ownBlock ≠ some s
section
variable {w0 w w' : World} {s : Nat} {A : Option Addr} {n c : Nat} {zs : List Int} {v : Value} {ms : List M} {q6 q7 : Nat} {f g : M} {b4 b6 b7 : Bool}
theorem SD3.next (h : SD3 w0 s A n c zs v ms q6 q7 f g false b6 b7 w) (hs : Src w' s A n c zs) (hg : w.grownBy w' (some s)) (b4 : Bool) : SD3 w0 s A n c zs v ms q6 q7 f g b4 b6 b7 w' :=
  have hl := h.low
  have h6 := h.lt.1
  have h7 := h.lt.2
  ⟨⟨h.sd.bel.trans ((bel_s hg (Nat.le_of_lt (h.src rfl).lt)).mono (by omega)), h.sd.lst.keep (fun q hq => hg.block q (h.sd.lst.lt q hq).2 (fun e => h.nb (by rw [hq]; exact e))), h.sd.c3.grown hg (fun e => by injection e with e; omega), h.sd.c4.grown hg (fun e => by injection e with e; omega), h.sd.c6.grown hg (fun e => by injection e with e; omega), h.sd.c7.grown hg (fun e => by injection e with e; omega), h.sd.h6, h.sd.h7⟩, fun _ => hs, h.low, h.lt, h.nb⟩
theorem SD3.do6 (h : SD3 w0 s A n c zs v ms q6 q7 f g true false b7 w) : SD3 w0 s A n c zs v ms q6 q7 f g true true b7 (st6 w w0.heap.size f) :=
  ⟨h.sd.do3, by simp, h.low, h.lt, h.nb⟩
theorem SD3.do7 (h : SD3 w0 s A n c zs v ms q6 q7 f g true b6 false w) : SD3 w0 s A n c zs v ms q6 q7 f g true b6 true (st6 w (w0.heap.size + 1) g) :=
  ⟨h.sd.do4, by simp, h.low, h.lt, h.nb⟩
end
end Go.Proofs.YtchjegojcpbfpaaGreat

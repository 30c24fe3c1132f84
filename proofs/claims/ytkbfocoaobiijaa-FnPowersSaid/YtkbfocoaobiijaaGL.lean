/- How an argument that is a list of bytes reads; contracts of the laws' small helpers; no conditions beyond those that the theorems state. -/
import Derived.Test.YtkbfocoaobiijaaDR1
import Derived.Test.YtkbfocoaobiijaaOpenI
import Derived.Test.YtkbfocoaobiijaaS1
import Derived.Test.YtkbfocoaobiijaaReg
import Derived.Test.YtkbfocoaobiijaaC2
import Derived.Test.YtkbfocoaobiijaaSlM
namespace Go.Proofs.Ytkbfocoaobiijaa
open Go.ChangeShapes Go.WideShapes Go.ChangeAt Go.RowKit
open Go.ChangeMaps (open_string shut_string)
set_option maxRecDepth 100000
set_option linter.unusedSimpArgs false
set_option linter.unusedVariables false

theorem cellsT8 : Try.prog.cellsOf T8 = 1 := by kernel_rfl
theorem wf_u8 {z : Int} (h : (Lit.int IntKind.u8 z).wf = true) : 0 ≤ z ∧ z < 256 := by
  have h' := h
  simp [Lit.wf] at h'
  have e1 : IntKind.u8.min = 0 := rfl
  have e2 : IntKind.u8.max = 255 := rfl
  omega
section
variable {H : Type} {enc : TypeId × Value → H} {w : World} {base : Nat} {spare : Nat → Bool} {held : Bool}
/-- an argument that is a list of bytes -/
theorem open_bytes {r : Reach} {b0 : Nat} {v : Value} {d : DataW H} {p : List MemPlace} (hv : Value.okWide Try.prog w r b0 22 v) (h : DataW.Trod enc Try.prog w base spare held 22 v d p) :
    ∃ (A : Option Addr) (n c : Nat) (zs : List Int), v = .slice A n c ∧ (zs.length = n ∧ RdU w w.heap.size A zs) := by
  obtain ⟨A, n, c, rfl⟩ := okWide_slice Try.underlying22 hv
  obtain ⟨fuel, hf⟩ := h
  rcases open_ints Try.underlying22 Try.underlying5 cellsT8 hf with ⟨hcs, _⟩ | ⟨a, len, cap, zs, hcs, _, hl, _, hz, _, hc, hwf⟩
  · simp [Value.cells] at hcs
    obtain ⟨rfl, rfl, rfl⟩ := hcs
    exact ⟨none, 0, 0, [], rfl, rfl, Rd.nil_, by simp⟩
  · simp [Value.cells] at hcs
    obtain ⟨rfl, rfl, rfl⟩ := hcs
    have hle : n ≤ zs.length := by rw [hz]; split <;> omega
    have hlen : (zs.take n).length = n := by simp; omega
    refine ⟨some a, n, c, zs.take n, rfl, hlen, ⟨by simp [cU], fun h0 => ?_⟩, fun z hzm => wf_u8 (hwf z (List.mem_of_mem_take hzm))⟩
    rw [hlen] at h0
    have h1 := hc 0 (by omega)
    have e0 : a.add 0 = a := rfl
    rw [e0] at h1
    have hs := spot_of_cell h1
    refine ⟨a.block, a.off, by rw [← hs], World.block_lt_of_cell? w a h1, fun j u hu => ?_⟩
    have hj : j < (zs.take n).length := by
      rcases Nat.lt_or_ge j (zs.take n).length with h | h
      · exact h
      · rw [List.getElem?_eq_none (by rw [cU_len]; exact h)] at hu; cases hu
    have hu2 : u = .int .u8 (gi (zs.take n) j) := by
      rw [cU, List.getElem?_map, List.getElem?_eq_getElem hj] at hu
      injection hu with hu
      rw [← hu]
      simp [gi, List.getD, hj]
      rw [List.getElem?_eq_getElem (by simpa using hj)]
      simp
    subst hu2
    rw [hlen] at hj
    have h2 := hc j (by omega)
    have e : a.add j = ⟨a.block, a.off + j, none⟩ := by
      unfold Addr.add
      split
      · rename_i h; subst h; rw [← hs]; rfl
      · rfl
    rw [e] at h2
    rw [h2]
    simp [gi, List.getD, hj]
end

theorem RdU.on {w w' : World} {B : Nat} {A : Option Addr} {zs : List Int} (h : RdU w B A zs) (hb : Below B w w') (hB : B ≤ w'.heap.size := by exact hb.size) : RdU w' w'.heap.size A zs := ⟨Rd.more (Rd.below h.1 hb) hB, h.2⟩
theorem RdI.on {w w' : World} {A : Option Addr} {ms : List Int} (h : RdI w w.heap.size A ms) (hb : Below w.heap.size w w') : RdI w' w'.heap.size A ms := Rd.more (Rd.below h hb) hb.size
theorem Blk.on {w w' : World} {g : Nat} {t : TypeId} {cs : Array Value} (h : Blk w g t cs) (hb : Below w.heap.size w w') : Blk w' g t cs := h.below hb h.lt
theorem OwI.len {e : TypeId} {w : World} {B : Nat} {v : Value} {zs : List Int} {N : Nat} (h : OwI e w B v zs) (hN : zs.length = N) : ∃ A c, v = .slice A N c ∧ RdI w w.heap.size A zs := by
  obtain ⟨A, c, rfl, hr⟩ := h.form
  exact ⟨A, c, by rw [hN], hr⟩

theorem RdI.all {w : World} {B : Nat} {A : Option Addr} {zs : List Int} (h : RdI w B A zs) (h0 : 0 < zs.length) :
    ∃ b off, A = some ⟨b, off, none⟩ ∧ b < B ∧ ∀ k, k < zs.length → w.cell? ⟨b, off + k, none⟩ = some (I (gi zs k)) := by
  obtain ⟨b, off, e, hb, hc⟩ := h.2 h0
  exact ⟨b, off, e, hb, fun k hk => hc k _ (cI_get hk)⟩

theorem big_any (A : Option Addr) (n c : Nat) (w : World) :
    Calls Try.prog 4 #[.slice A n c] w fun e w' => e = .returned (.bool (decide (4096 < n))) ∧ Below w.heap.size w w' := by
  go_enter Try.func4, Try.ntmps4
  go_wp2
  go_ret
  exact ⟨by congr 2; simp; omega, Below.refl _ _⟩

theorem likeInts_same (A C : Option Addr) (n c d : Nat) (ms : List Int) (w : World) (hn : ms.length = n) (hx : RdI w w.heap.size A ms) (hy : RdI w w.heap.size C ms) (hb : n < 1073741824) :
    Calls Try.prog 15 #[.slice A n c, .slice C n d] w fun e w' => e = .returned (.bool true) ∧ Below w.heap.size w w' := by
  have hbe : ((n : Int) != (n : Int)) = false := by simp
  have Hn := Lib.hid hn
  clear hn
  go_enter Try.func15, Try.ntmps15
  go_wp2
  go_loopw [5] (fun i wr => ∃ k : Nat, k ≤ n ∧ i = .int .i64 k ∧ RdI wr w.heap.size A ms ∧ RdI wr w.heap.size C ms ∧ Below w.heap.size w wr) (fun i _ => n - (intOf i).toNat)
  case atStart => exact ⟨0, by omega, rfl, hx, hy, Below.refl _ _⟩
  case round =>
    clear hx hy
    obtain ⟨k, hk, rfl, hx, hy, hbel⟩ := hrel
    by_cases hlt : k < n
    · obtain ⟨b, off, rfl, hbb, s1⟩ := RdI.at_ hx (k := k) (by rw [Hn.out]; exact hlt)
      obtain ⟨b', off', rfl, hbb', s2⟩ := RdI.at_ hy (k := k) (by rw [Hn.out]; exact hlt)
      have h0 : (0 : Int) ≤ (k : Int) := by omega
      have h1 : (k : Int) < (n : Int) := by omega
      have hsz := hbel.size
      have lb : b < wr.heap.size := by omega
      have lb' : b' < wr.heap.size := by omega
      have Hx := Lib.hid hx
      have Hy := Lib.hid hy
      have S1 := Lib.hid s1
      have S2 := Lib.hid s2
      have Hbel := Lib.hid hbel
      clear hx hy hbel s1 s2
      go_wp2_with fail
      refine wp_region_same [] rfl (by kernel_rfl) (by kernel_rfl) (by kernel_rfl) (fun w' => Below wr.heap.size wr w') _
        [.slice (some ⟨b, off, none⟩) n c, I k, .pointer (some ⟨b, off + k, none⟩), I (gi ms k), .slice (some ⟨b', off', none⟩) n d, I k, .pointer (some ⟨b', off' + k, none⟩), I (gi ms k), .bool false]
        (by simp only [putAll, List.setIfInBounds_toArray, List.set_cons_succ, List.set_cons_zero]; rfl) (Below.refl _ _).drew ?hop ?hQ
      case hop =>
        refine FixBL.toL (fun w' w'' hS hb => hS.trans (hb.mono hS.size)) _ _ ?_
        refine ⟨.inr ?_, .inr ?_, .inr ?_, .inr ?_, .inr ?_, .inr ?_, .inr ?_, .inr ?_, .inr ?_, trivial⟩
        · (with_reducible refine FixB.of ?_ ?_; rfl; intro w' hS; have s0 := (hS.cell (p := ⟨b, off + k, none⟩) lb).trans S1.out; have s1 := (hS.cell (p := ⟨b', off' + k, none⟩) lb').trans S2.out; clear hS; unfold Oper.wp; go_simp; first | done | exact Below.refl _ _)
        · (with_reducible refine FixB.of ?_ ?_; rfl; intro w' hS; have s0 := (hS.cell (p := ⟨b, off + k, none⟩) lb).trans S1.out; have s1 := (hS.cell (p := ⟨b', off' + k, none⟩) lb').trans S2.out; clear hS; unfold Oper.wp; go_simp; first | done | exact Below.refl _ _)
        · (with_reducible refine FixB.of ?_ ?_; rfl; intro w' hS; have s0 := (hS.cell (p := ⟨b, off + k, none⟩) lb).trans S1.out; have s1 := (hS.cell (p := ⟨b', off' + k, none⟩) lb').trans S2.out; clear hS; unfold Oper.wp; go_simp; first | done | exact Below.refl _ _)
        · (with_reducible refine FixB.of ?_ ?_; rfl; intro w' hS; have s0 := (hS.cell (p := ⟨b, off + k, none⟩) lb).trans S1.out; have s1 := (hS.cell (p := ⟨b', off' + k, none⟩) lb').trans S2.out; clear hS; unfold Oper.wp; go_simp; first | done | exact Below.refl _ _)
        · (with_reducible refine FixB.of ?_ ?_; rfl; intro w' hS; have s0 := (hS.cell (p := ⟨b, off + k, none⟩) lb).trans S1.out; have s1 := (hS.cell (p := ⟨b', off' + k, none⟩) lb').trans S2.out; clear hS; unfold Oper.wp; go_simp; first | done | exact Below.refl _ _)
        · (with_reducible refine FixB.of ?_ ?_; rfl; intro w' hS; have s0 := (hS.cell (p := ⟨b, off + k, none⟩) lb).trans S1.out; have s1 := (hS.cell (p := ⟨b', off' + k, none⟩) lb').trans S2.out; clear hS; unfold Oper.wp; go_simp; first | done | exact Below.refl _ _)
        · (with_reducible refine FixB.of ?_ ?_; rfl; intro w' hS; have s0 := (hS.cell (p := ⟨b, off + k, none⟩) lb).trans S1.out; have s1 := (hS.cell (p := ⟨b', off' + k, none⟩) lb').trans S2.out; clear hS; unfold Oper.wp; go_simp; first | done | exact Below.refl _ _)
        · (with_reducible refine FixB.of ?_ ?_; rfl; intro w' hS; have s0 := (hS.cell (p := ⟨b, off + k, none⟩) lb).trans S1.out; have s1 := (hS.cell (p := ⟨b', off' + k, none⟩) lb').trans S2.out; clear hS; unfold Oper.wp; go_simp; first | done | exact Below.refl _ _)
        · (with_reducible refine FixB.of ?_ ?_; rfl; intro w' hS; have s0 := (hS.cell (p := ⟨b, off + k, none⟩) lb).trans S1.out; have s1 := (hS.cell (p := ⟨b', off' + k, none⟩) lb').trans S2.out; clear hS; unfold Oper.wp; go_simp; first | done | exact Below.refl _ _)
      case hQ =>
      intro wc hS _
      have HB := Lib.hid hS
      clear hS
      have Hx2 := Lib.hid (Rd.below' Hx.out HB.out Hbel.out.size)
      have Hy2 := Lib.hid (Rd.below' Hy.out HB.out Hbel.out.size)
      have Hb2 := Lib.hid (Hbel.out.trans (HB.out.mono Hbel.out.size))
      clear S1 S2 Hx Hy Hbel
      go_wp2
      go_roundw
      case rel => exact ⟨k + 1, by omega, by go_num, Hx2.out, Hy2.out, Hb2.out⟩
      case measure => simp [intOf]; omega
    · go_wp2
      go_ret
      exact ⟨rfl, hbel⟩

end Go.Proofs.Ytkbfocoaobiijaa

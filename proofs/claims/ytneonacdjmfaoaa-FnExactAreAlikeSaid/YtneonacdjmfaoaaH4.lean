/- Contract of the reference's elements with the numbers of some of them; conditions as the theorem states. -/
import Derived.Test.YtneonacdjmfaoaaH3
namespace Go.Proofs.Ytneonacdjmfaoaa
open Go.RowKit
set_option maxRecDepth 100000
set_option linter.unusedSimpArgs false
set_option linter.unusedVariables false

def gR (ms xs : List M) : List M := if monC ms xs = 0 then elR ms xs else []
def gN (ms xs : List M) : List Int := if monC ms xs = 0 then xs.map fun f => (ix (elR ms xs) f : Int) else []
def RetG (ms xs : List M) (w : World) (e : Ending) (w' : World) : Prop := ∃ A c v, e = .returned (.tuple #[.slice A (gR ms xs).length c, v, I (monC ms xs)]) ∧ RdM w' w'.heap.size A (gR ms xs) ∧ OwI TN w' w.heap.size v (gN ms xs) ∧ Below w.heap.size w w'

set_option maxHeartbeats 1000000 in
theorem l03Given_any (A1 A2 : Option Addr) (n1 c1 n2 c2 : Nat) (ms xs : List M) (w : World) (hx : RdM w w.heap.size A1 ms) (hy : RdM w w.heap.size A2 xs) (hn : ms.length = n1) (hm : xs.length = n2)
    (hb : n1 < 1073741824) (hb2 : n2 < 1073741824) :
    Calls Try.prog 45 #[.slice A1 n1 c1, .slice A2 n2 c2] w (RetG ms xs w) := by
  have Hx := Lib.hid hx
  have Hy := Lib.hid hy
  have Hn := Lib.hid hn
  have Hm := Lib.hid hm
  clear hx hy hn hm
  by_cases hc : elC ms xs = 0
  · obtain ⟨E, ps, hE⟩ := elC_el hc
    have hlen := hE.len
    have hpos := hE.pos
    have HE := Lib.hid hE
    have Hc := Lib.hid hc
    have H4 : Hid (∀ f ∈ xs, Valid f) := fun f hf => (hE.X f hf).1
    clear hE hc
    go_enter Try.func45, Try.ntmps45
    go_wp2_with fail
    refine (l02Elements_any A1 A2 n1 c1 n2 c2 ms xs _ Hx.out Hy.out Hn.out Hm.out hb hb2).mono ?_
    rintro e w1 ⟨A', c', rfl, hr, hb1⟩
    rw [HE.out.r] at hr ⊢
    rw [Hc.out]
    have Hr := Lib.hid hr
    have Hb1 := Lib.hid hb1
    have hz1 := hb1.size
    obtain ⟨N, hN⟩ : ∃ N, E.length = N := ⟨_, rfl⟩
    rw [hN] at hlen hpos ⊢
    have HN := Lib.hid hN
    clear hr hb1 hN
    go_wp2_with fail
    go_loopw [9, 10] (fun v i wr => ∃ q : Nat, i = .int .i64 q ∧ q ≤ n2 ∧ Below w1.heap.size w1 wr ∧ OwI TN wr w1.heap.size v ((xs.take q).map fun f => (ix E f : Int)) ∧ ∀ f ∈ xs.take q, f ∈ E) (fun _ i _ => n2 - (intOf i).toNat)
    case atStart => exact ⟨0, rfl, by omega, (Below.refl _ _).alloc (Nat.le_refl _) _, by simpa using OwI.made (Nat.le_refl _), by simp⟩
    case round =>
      obtain ⟨q, rfl, hq, hb', ho, hin⟩ := hrel
      have Hb := Lib.hid hb'
      have Hin := Lib.hid hin
      have hl : (List.map (fun f => (ix E f : Int)) (xs.take q)).length = q := by rw [List.length_map, List.length_take, Hm.out]; omega
      obtain ⟨A, cA, hv, _⟩ := ho.form
      rw [hl] at hv
      subst hv
      have Ho := Lib.hid ho
      have Hl := Lib.hid hl
      have hsz := hb'.size
      clear hb' ho hin hl
      by_cases hq2 : q < n2
      · have hqz : (q : Int) < (n2 : Int) := by omega
        have hbq := Hb1.out.trans (Hb.out.mono hz1)
        obtain ⟨b2, off2, rfl, hbb2, _⟩ := RdM.at_ Hy.out (k := q) (by rw [Hm.out]; exact hq2)
        have H6 := (RdM.six (Rd.more (Rd.below Hy.out hbq) hbq.size) (k := q) (by rw [Hm.out]; exact hq2)).1
        obtain ⟨f, hf⟩ : ∃ f, f = gm xs q := ⟨_, rfl⟩
        rw [← hf] at H6
        obtain ⟨x0, x1, x2, x3, x4, x5⟩ := H6
        have hfx : f ∈ xs := by rw [hf]; exact gm_mem (by rw [Hm.out]; exact hq2)
        have hvf := H4.out f hfx
        have Htk : Hid (xs.take (q + 1) = xs.take q ++ [f]) := by show _ = _; rw [List.take_add_one, hf, gm_eq (by rw [Hm.out]; exact hq2), List.getElem?_eq_getElem (by rw [Hm.out]; exact hq2)]; rfl
        have Hfx := Lib.hid hfx
        clear hf hfx hbq
        go_wp2_with fail
        refine (l03Index_any A' N c' E f wr (Rd.more (Rd.below Hr.out Hb.out) hsz) HN.out (by omega) HE.out.mnd.asc (fun g hg => (HE.out.mnd.ok g hg).1) hvf).mono ?_
        rintro e w3 ⟨rfl, hb3⟩
        have Hb3 := Lib.hid (Hb.out.trans (hb3.mono hsz))
        have Ho3 := Lib.hid (Ho.out.below hb3 (Nat.le_refl _))
        have hs3 := hb3.size
        clear hb3 x0 x1 x2 x3 x4 x5 Ho Hb
        by_cases hfE : f ∈ E
        · have hp : plOf E f - 1 = (ix E f : Int) := by rw [plOf_in hfE]; omega
          rw [hp]
          have hix := ix_lt hfE
          obtain ⟨x, hxx⟩ : ∃ x, x = ix E f := ⟨_, rfl⟩
          rw [← hxx] at hix ⊢
          have Hxx := Lib.hid hxx
          have hx300 : x < 300 := by have := HN.out; omega
          have Hin2 : Hid (∀ g ∈ xs.take (q + 1), g ∈ E) := fun g hg => by
            rw [Htk.out] at hg
            rcases List.mem_append.1 hg with h | h
            · exact Hin.out g h
            · rw [List.mem_singleton] at h; rw [h]; exact hfE
          have hxn : ¬ ((x : Int) < 0) := by omega
          clear hp hxx hfE hix
          go_wp2_with (at_builtin; refine wpList_pushN rfl (.tmp 36) (.tmp 38) rfl w1.heap.size (.slice A q cA) (List.map (fun f => (ix E f : Int)) (xs.take q)) rfl (Ho3.out.alloc _) q Hl.out w3.heap.size 1 x rfl ((Blk.new _ _ _).cell 0) (by omega) (by simp; omega) (w3.heap.size + 1) (by simp) ?_; intro g' cap w4 ho' hgr hg' hlt'; have Hb4 := Lib.hid (((Ho3.out.alloc (.cells #[I x] TN)).bel (Hb3.out.alloc (by omega) _) hgr (Nat.le_refl _) (by simp; omega))); have Ho4 := Lib.hid ho'; clear ho' hgr hg' hlt')
          go_roundw
          case rel => exact ⟨q + 1, by go_num, by omega, Hb4.out, by rw [Htk.out, List.map_append, List.map_singleton, ← Hxx.out]; exact Ho4.out, Hin2.out⟩
          case measure => simp [intOf]; omega
        · have hp : plOf E f - 1 = -1 := by rw [plOf_out hfE]; rfl
          rw [hp]
          have hmc : monC ms xs = 4 := monC_out HE.out.code HE.out.clo Hfx.out (by rw [← HE.out.eq]; exact hfE)
          have HR : Hid (gR ms xs = []) := by show _ = _; unfold gR; rw [if_neg (by rw [hmc]; decide)]
          have HG : Hid (gN ms xs = []) := by show _ = _; unfold gN; rw [if_neg (by rw [hmc]; decide)]
          have Hmc := Lib.hid hmc
          have Hbe := Lib.hid (Hb1.out.trans (Hb3.out.mono hz1))
          clear hp hmc
          go_wp2_with fail
          go_ret3
          exact ⟨none, 0, _, by rw [Hmc.out, HR.out] <;> rfl, by rw [HR.out]; exact Rd.nil_, by rw [HG.out]; exact OwI.nil_, Hbe.out⟩
      · obtain rfl : q = n2 := by omega
        have hqz : ¬ ((q : Int) < (q : Int)) := by omega
        have htk : xs.take q = xs := List.take_of_length_le (by rw [Hm.out]; exact Nat.le_refl _)
        have hmc : monC ms xs = 0 := monC_in HE.out.code HE.out.clo (by have := Hin.out; rw [htk, HE.out.eq] at this; exact this)
        have HR : Hid (gR ms xs = E) := by show _ = _; unfold gR; rw [if_pos hmc, HE.out.r]
        have HG : Hid (gN ms xs = List.map (fun f => (ix E f : Int)) (xs.take q)) := by show _ = _; unfold gN; rw [if_pos hmc, HE.out.r, htk]
        have Hmc := Lib.hid hmc
        have Hbe := Lib.hid (Hb1.out.trans (Hb.out.mono hz1))
        have Hre := Lib.hid (Rd.more (Rd.below Hr.out Hb.out) hsz)
        clear htk hmc
        go_wp2_with fail
        go_ret3
        exact ⟨A', c', _, by rw [Hmc.out, HR.out, HN.out] <;> rfl, by rw [HR.out]; exact Hre.out, by rw [HG.out]; exact Ho.out.mono hz1, Hbe.out⟩
  · have hmc := elC_mon hc
    have HR : Hid (gR ms xs = []) := by show _ = _; unfold gR; rw [if_neg (by rw [hmc]; exact hc)]
    have HG : Hid (gN ms xs = []) := by show _ = _; unfold gN; rw [if_neg (by rw [hmc]; exact hc)]
    have Hmc := Lib.hid hmc
    have hne : (elC ms xs != 0) = true := by simpa using hc
    clear hc hmc
    go_enter Try.func45, Try.ntmps45
    go_wp2_with fail
    refine (l02Elements_any A1 A2 n1 c1 n2 c2 ms xs _ Hx.out Hy.out Hn.out Hm.out hb hb2).mono ?_
    rintro e w1 ⟨A', c', rfl, hr, hb1⟩
    have Hb1 := Lib.hid hb1
    clear hr hb1
    go_wp2
    go_ret3
    exact ⟨none, 0, _, by rw [Hmc.out, HR.out] <;> rfl, by rw [HR.out]; exact Rd.nil_, by rw [HG.out]; exact OwI.nil_, Hb1.out⟩
end Go.Proofs.Ytneonacdjmfaoaa

/- The contract of monoidOf; the lists are as the theorem states. The contract of spec.l02Elements; the lists are as the theorem states. Contracts of the marks on lists of maps; no conditions beyond those that each theorem states. What stands while a statement is walked: its arguments, the reference's result, the program's argument and result; ends of regions whose last call hands its value on; no conditions beyond those that each theorem states. Contracts of ElementsOf, SizeOf, IsElement and WordFor of both sides; the lists are as each theorem states. Contracts of the predicates on the elements of a monoid and of elementsThat; the monoid stands as the theorems say. Contracts of elementsThat and of the program's lists of elements that are such; the lists are as each theorem states. Contracts of CentreOf, IdempotentsOf, SideZeros, ZeroOf, IsCommutative and IsRegularIn of the program; the lists are as each theorem states. Contracts of IsCommutative and IsRegularIn of the program; the lists are as each theorem states. A map of a list in its block; parts of lists. Contracts of the reference's search for a map's number and of its search for what an element reaches; conditions as each theorem states. What the reference's search reaches: plain laws. Contract of the reference's search for what an element reaches; conditions as the theorem states. Contract of the reference's elements with the numbers of some of them; conditions as the theorem states. -/
import Derived.Test.YtkbfocoaobiijaaGreatQG06
import Derived.OwnWalk
set_option linter.unusedSimpArgs false
set_option linter.unusedVariables false
namespace Go.Proofs.YtkbfocoaobiijaaGreat
open Go.RowKit
set_option maxRecDepth 100000
theorem MonAt.from {n : Int} {B B' g : Nat} {E : List M} {us : List (List Int)} {w : World} (h : MonAt n B g E us w) (hB : B' ≤ B) : MonAt n B' g E us w := by
  obtain ⟨ge, ev, wv, pl, vs, h1, h2, h3, h4, h5, h6, h7⟩ := h
  exact ⟨by omega, ev, wv, pl, vs, h1, h2, h3.mono hB, h4.mono hB, h5, h6, fun j hj => (h7 j hj).mono hB⟩
theorem infoN : (Tryz.prog.info? 3).map (fun i => (i.zero, i.size, i.bytes)) = some (some (.int .i64 0), 1, 8) := by kernel_rfl
theorem wpList_pushN {w : World} {ops : Array Oper} {rest : List Oper} {o : Oper} {a : Act} {Q : Exit → Act → World → Prop} (hgd : o.guard = none) (s x : Operand)
    (ho : o.op = .call { callee := .builtin .append, args := #[s, x], argTypes := #[108, 108] }) (B : Nat) (v : Value) (zs : List Int) (hs : a.eval s = v) (hown : OwI 3 w B v zs) (n : Nat) (hlen : zs.length = n)
    (g : Nat) (c : Nat) (z : Int) (hx : a.eval x = .slice (some ⟨g, 0, none⟩) 1 c) (hg : w.cell? ⟨g, 0, none⟩ = some (I z))
    (hn : n < 1073741824) (hB : B ≤ w.heap.size) (H : Nat) (hH : w.heap.size = H)
    (h : ∀ g' cap w', OwI 3 w' B (.slice (some ⟨g', 0, none⟩) (n + 1) cap) (zs ++ [z]) → w.grownBy w' v.ownBlock → (v.ownBlock = some g' ∨ g' = H) → g' < w'.heap.size →
      wpList Tryz.prog ops Q rest (a.put o.dst (.slice (some ⟨g', 0, none⟩) (n + 1) cap)) w') : wpList Tryz.prog ops Q (o :: rest) a w := by
  subst hlen
  obtain ⟨i, hi, hz0, hz1, hz2⟩ := info_parts infoN
  refine wpList_append_lies w hgd s x 108 ho B 3 i (.int .i64 0) 1 8 Tryz.underlying108 hi hz0 hz1 hz2 rfl (by decide) v zs.length (cI zs) hs hown ⟨g, 0, none⟩ 1 c [I z] hx rfl ?_ ?_ (by decide) (by unfold maxLen; omega) (by omega) hB H hH ?_
  · intro j u hj
    match j, hj with
    | 0, hj => simp at hj; subst hj; simpa [Addr.add] using hg
  · intro u hu; simp at hu; subst hu; rfl
  · intro g' cap w' h1 h2 h3 h4
    exact h g' cap w' (by unfold OwI; rw [cI_snoc]; simpa using h1) h2 h3 h4
theorem codeL_pts' {ms xs : List M} (h : codeL ms xs = 0) : 1 ≤ (gm ms 0).p ∧ (gm ms 0).p ≤ 5 ∧ Pts (gm ms 0).p ms ∧ Pts (gm ms 0).p xs ∧ 1 ≤ ms.length ∧ ms.length ≤ 6 := by
  obtain ⟨h1, h2, h3⟩ := codeL_zero.1 h
  have h4 := inR_true.1 h2
  rw [List.all_eq_true] at h1 h3
  have key : ∀ f, f ∈ ms ++ xs → Valid f ∧ f.p = (gm ms 0).p := fun f hf => ⟨(isMap_iff f).1 (h1 f hf), of_decide_eq_true (h3 f hf)⟩
  have h0 : gm ms 0 ∈ ms := by rw [gm_eq (by omega)]; exact List.getElem_mem _
  have hv := (key _ (List.mem_append_left _ h0)).1
  exact ⟨hv.p1, hv.p5, fun f hf => key f (List.mem_append_left _ hf), fun f hf => key f (List.mem_append_right _ hf), by omega, by omega⟩
abbrev eltM (ps : Met) : List M := sortM (ps.map (·.1))
def monC (ms xs : List M) : Int :=
  if codeL ms xs = 0 then
    match clo ms (gm ms 0).p with
    | none => 3
    | some ps => if xs.all (fun f => decide (f ∈ eltM ps)) then 0 else 4
  else codeL ms xs
theorem monC_code {ms xs : List M} (h : codeL ms xs ≠ 0) : monC ms xs = codeL ms xs := if_neg h
theorem monC_none {ms xs : List M} (h : codeL ms xs = 0) (hc : clo ms (gm ms 0).p = none) : monC ms xs = 3 := by simp [monC, h, hc]
theorem monC_in {ms xs : List M} {ps : Met} (h : codeL ms xs = 0) (hc : clo ms (gm ms 0).p = some ps) (hx : ∀ f ∈ xs, f ∈ eltM ps) : monC ms xs = 0 := by
  unfold monC
  rw [if_pos h, hc]
  simp only
  rw [if_pos]
  rw [List.all_eq_true]
  exact fun f hf => decide_eq_true (hx f hf)
theorem monC_out {ms xs : List M} {ps : Met} {f : M} (h : codeL ms xs = 0) (hc : clo ms (gm ms 0).p = some ps) (hf : f ∈ xs) (hn : f ∉ eltM ps) : monC ms xs = 4 := by
  unfold monC
  rw [if_pos h, hc]
  simp only
  rw [if_neg]
  rw [List.all_eq_true]
  exact fun h => hn (of_decide_eq_true (h f hf))
theorem monoidOf_any (A1 A2 : Option Addr) (n1 c1 n2 c2 : Nat) (ms xs : List M) (w : World) (hx : RdM w w.heap.size A1 ms) (hy : RdM w w.heap.size A2 xs) (hn : ms.length = n1) (hm : xs.length = n2)
    (hA1 : A1 = none → n1 = 0 ∧ c1 = 0) (hA2 : A2 = none → n2 = 0 ∧ c2 = 0) (hb : n1 + n2 < 1073741824) :
    Calls Tryz.prog 131 #[.slice A1 n1 c1, .slice A2 n2 c2] w fun e w' => ∃ r v, e = .returned (.tuple #[r, v, I (monC ms xs)]) ∧ Below w.heap.size w w' ∧ (monC ms xs ≠ 0 → r = .pointer none ∧ v = .slice none 0 0) ∧
      ∀ ps, clo ms (gm ms 0).p = some ps → monC ms xs = 0 → ∃ g, r = .pointer (some ⟨g, 0, none⟩) ∧ MonAt (gm ms 0).p w.heap.size g (eltM ps) ((eltM ps).map (wordOf ps)) w' ∧ OwI 3 w' w.heap.size v (xs.map fun f => (ix (eltM ps) f : Int)) := by
  have Hx := Lib.hid hx
  have Hy := Lib.hid hy
  have Hn := Lib.hid hn
  have Hm := Lib.hid hm
  have HA1 := Lib.hid hA1
  have HA2 := Lib.hid hA2
  clear hx hy hn hm hA1 hA2
  go_enter Tryz.func131, Tryz.ntmps131
  go_wp2_with fail
  refine (listCode_any A1 A2 n1 c1 n2 c2 ms xs _ Hx.out Hy.out Hn.out Hm.out HA1.out HA2.out hb).mono ?_
  rintro e w1 ⟨rfl, hb1⟩
  by_cases hc : codeL ms xs = 0
  · obtain ⟨q1, q2, q3, q4, q5, q6⟩ := codeL_pts' hc
    have Hc := Lib.hid hc
    have H3 := Lib.hid q3
    have H4 := Lib.hid q4
    have Hb1 := Lib.hid hb1
    rw [hc]
    have hx1 := Rd.below Hx.out hb1
    obtain ⟨b, off, rfl, hbb, x0, x1, x2, x3, x4, x5⟩ := RdM.at_ hx1 (k := 0) (by omega)
    rw [Nat.zero_mul, Nat.add_zero] at x0
    have hl1 : 0 < n1 := by have := Hn.out; omega
    clear hc q3 q4 hb1 hx1 x1 x2 x3 x4 x5
    go_wp2_with fail
    refine (newMonoid_any (some ⟨b, off, none⟩) n1 c1 ms (gm ms 0).p w1 (Rd.more (Rd.below Hx.out Hb1.out) Hb1.out.size) Hn.out (by omega) q1 q2 H3.out).mono ?_
    rintro e w2 ⟨r, rfl, hb2, _, hsome⟩
    have Hb2 := Lib.hid (Hb1.out.trans (hb2.mono Hb1.out.size))
    clear x0
    cases hclo : clo ms (gm ms 0).p with
    | none =>
      have hcl : cloC ms (gm ms 0).p = 3 := by rw [cloC, hclo]; rfl
      have hmc := monC_none Hc.out hclo
      rw [hcl]
      clear hsome hb2
      go_wp2
      go_ret3
      exact ⟨_, _, by rw [hmc] <;> rfl, Hb2.out, fun _ => ⟨rfl, rfl⟩, fun ps h => (by rw [hclo] at h; cases h)⟩
    | some ps =>
      have hcl : cloC ms (gm ms 0).p = 0 := by rw [cloC, hclo]; rfl
      obtain ⟨g, rfl, hMA⟩ := hsome ps hclo
      rw [hcl]
      obtain ⟨E, hE⟩ : ∃ E, E = sortM (ps.map (·.1)) := ⟨_, rfl⟩
      rw [← hE] at hMA
      have hgd := (clo_good hclo).1
      have hEl : E.length ≤ 300 := by rw [hE, sortM_length hgd.nd, List.length_map]; exact hgd.len
      have HMA := Lib.hid hMA
      have HE := Lib.hid hE
      have Hclo := Lib.hid hclo
      have hs1 := Hb1.out.size
      have hs2 := hb2.size
      clear hsome hb2 hMA hE hcl hgd hclo
      go_wp2_with fail
      go_loopw [34, 10] (fun i v wr => ∃ r : Nat, i = .int .i64 r ∧ r ≤ n2 ∧ Below w2.heap.size w2 wr ∧ OwI 3 wr w2.heap.size v ((xs.take r).map fun f => (ix E f : Int)) ∧ ∀ f ∈ xs.take r, f ∈ E) (fun i _ _ => n2 - (intOf i).toNat)
      case atStart => exact ⟨0, rfl, by omega, Below.refl _ _, by simpa using OwI.nil_, by simp⟩
      case round =>
        obtain ⟨r, rfl, hr, hb, ho, hin⟩ := hrel
        have Hb := Lib.hid hb
        have Hin := Lib.hid hin
        have hlen : (List.map (fun f => (ix E f : Int)) (xs.take r)).length = r := by rw [List.length_map, List.length_take, Hm.out]; omega
        obtain ⟨A, cA, hv, _⟩ := ho.form
        rw [hlen] at hv
        subst hv
        have Ho := Lib.hid ho
        have Hlen := Lib.hid hlen
        have hsz := hb.size
        clear hb ho hin hlen
        by_cases hrl : r < n2
        · have hrE : (r : Int) < (n2 : Int) := by omega
          obtain ⟨b2, off2, rfl, hbb2, x0, x1, x2, x3, x4, x5⟩ := RdM.at_ (Rd.below (Rd.below Hy.out Hb2.out) (Hb.out.mono Hb2.out.size)) (k := r) (by rw [Hm.out]; exact hrl)
          obtain ⟨f, hf⟩ : ∃ f, f = gm xs r := ⟨_, rfl⟩
          rw [← hf] at x0 x1 x2 x3 x4 x5
          have hfx : f ∈ xs := by rw [hf]; exact gm_mem (by rw [Hm.out]; exact hrl)
          have hvf := (H4.out f hfx).1
          have Hpf := Lib.hid (H4.out f hfx).2
          have htk : xs.take (r + 1) = xs.take r ++ [f] := by rw [List.take_add_one, hf, gm_eq (by rw [Hm.out]; exact hrl), List.getElem?_eq_getElem (by rw [Hm.out]; exact hrl)]; rfl
          have Htk := Lib.hid htk
          have Hfx := Lib.hid hfx
          clear hf htk hfx
          go_wp2_with fail
          obtain ⟨wb, hwb⟩ : ∃ wb, wb = wr.alloc (.cells (mc f) 31) := ⟨_, rfl⟩
          have hwbs : wb.heap.size = wr.heap.size + 1 := by rw [hwb]; simp
          have Hbb := Lib.hid (Hb.out.alloc hsz (.cells (mc f) 31))
          have Hob := Lib.hid (Ho.out.alloc (.cells (mc f) 31))
          rw [← hwb] at Hbb Hob ⊢
          clear hwb x0 x1 x2 x3 x4 x5 Ho Hb
          refine (place_any f wb (HMA.out.below Hbb.out (Nat.le_refl _)) hEl hvf Hpf.out).mono ?_
          rintro e w3 ⟨rfl, hb3⟩
          have Hb3 := Lib.hid (Hbb.out.trans (hb3.mono Hbb.out.size))
          have Ho3 := Lib.hid (Hob.out.below hb3 (Nat.le_refl _))
          have hs3 := hb3.size
          clear hb3 Hbb Hob Hpf
          by_cases hfE : f ∈ E
          · have hpl : plOf E f - 1 = (ix E f : Int) := by rw [plOf_in hfE]; omega
            rw [hpl]
            have hxb : (ix E f : Int) < 300 := by have := ix_lt hfE; omega
            have HfE := Lib.hid hfE
            obtain ⟨x, hx⟩ : ∃ x, x = ix E f := ⟨_, rfl⟩
            rw [← hx] at hxb ⊢
            have Hxx := Lib.hid hx
            have hxn : ¬ ((x : Int) < 0) := by omega
            have hs4 : w2.heap.size ≤ w3.heap.size := by omega
            clear hfE hpl hx
            go_wp2_with (at_builtin; refine wpList_pushN rfl (.tmp 43) (.tmp 45) rfl w2.heap.size (.slice A r cA) _ rfl (Ho3.out.alloc _) r Hlen.out w3.heap.size 1 x rfl ((Blk.new _ _ _).cell 0) (by omega) (by simp; omega) (w3.heap.size + 1) (by simp) ?_; intro g' cap w4 ho' hgr hg' hlt')
            have Hb4 := Lib.hid ((Ho3.out.alloc (.cells #[I x] 3)).bel (Hb3.out.alloc hs4 _) hgr (Nat.le_refl _) (by simp; omega))
            have hn4 : List.map (fun f => (ix E f : Int)) (xs.take r) ++ [(x : Int)] = List.map (fun f => (ix E f : Int)) (xs.take (r + 1)) := by rw [Htk.out, List.map_append, Hxx.out]; rfl
            rw [hn4] at ho'
            have Ho4 := Lib.hid ho'
            clear ho' hgr hg' hlt' hn4
            go_wp2
            go_roundw
            case rel => exact ⟨r + 1, by go_num, by omega, Hb4.out, Ho4.out, fun f' hf' => by
              rw [Htk.out] at hf'
              rcases List.mem_append.1 hf' with h | h
              · exact Hin.out f' h
              · rw [List.mem_singleton.1 h]; exact HfE.out⟩
            case measure => simp [intOf]; omega
          · have hpl : plOf E f - 1 = -1 := by rw [plOf_out hfE]; rfl
            rw [hpl]
            have hmc : monC ms xs = 4 := monC_out Hc.out Hclo.out Hfx.out (by have h := hfE; rw [HE.out] at h; exact h)
            have Hbe := Lib.hid (Hb2.out.trans (Hb3.out.mono Hb2.out.size))
            clear hfE hpl
            go_wp2
            go_ret3
            exact ⟨_, _, by rw [hmc] <;> rfl, Hbe.out, fun _ => ⟨rfl, rfl⟩, fun ps' _ h => by rw [hmc] at h; cases h⟩
        · obtain rfl : r = n2 := by omega
          have hrl' : ¬ ((r : Int) < (r : Int)) := by omega
          have htk : xs.take r = xs := List.take_of_length_le (by rw [Hm.out]; exact Nat.le_refl _)
          rw [htk] at Hin Ho
          have Hmc : Hid (monC ms xs = 0) := monC_in Hc.out Hclo.out (by have h := Hin.out; rw [HE.out] at h; exact h)
          have HM3 := Lib.hid (HMA.out.below Hb.out (Nat.le_refl _))
          have Hbe := Lib.hid (Hb2.out.trans (Hb.out.mono Hb2.out.size))
          clear htk
          go_wp2
          go_ret3
          refine ⟨_, _, by rw [Hmc.out] <;> rfl, Hbe.out, fun h => absurd Hmc.out h, fun ps' h _ => ?_⟩
          rw [Hclo.out] at h
          injection h with h
          subst h
          have hE := HE.out
          subst hE
          exact ⟨g, rfl, HM3.out.from hs1, Ho.out.mono (by omega)⟩
  · go_wp2
    go_ret3
    exact ⟨_, _, by rw [monC_code hc] <;> rfl, hb1, fun _ => ⟨rfl, rfl⟩, fun ps _ h => absurd (by rw [monC_code hc] at h; exact h) hc⟩
end Go.Proofs.YtkbfocoaobiijaaGreat

namespace Go.Proofs.YtkbfocoaobiijaaGreat
open Go.RowKit
set_option maxRecDepth 100000
set_option linter.unusedSimpArgs false
def elR (ms xs : List M) : List M := if codeL ms xs = 0 then (match clo ms (gm ms 0).p with | none => [] | some ps => eltM ps) else []
def elC (ms xs : List M) : Int := if codeL ms xs = 0 then (if (clo ms (gm ms 0).p).isSome then 0 else 3) else codeL ms xs
theorem elC_code {ms xs : List M} (h : codeL ms xs ≠ 0) : elC ms xs = codeL ms xs := if_neg h
theorem elR_code {ms xs : List M} (h : codeL ms xs ≠ 0) : elR ms xs = [] := if_neg h
theorem elC_none {ms xs : List M} (h : codeL ms xs = 0) (hc : clo ms (gm ms 0).p = none) : elC ms xs = 3 := by simp [elC, h, hc]
theorem elR_none {ms xs : List M} (h : codeL ms xs = 0) (hc : clo ms (gm ms 0).p = none) : elR ms xs = [] := by simp [elR, h, hc]
theorem elC_some {ms xs : List M} {ps : Met} (h : codeL ms xs = 0) (hc : clo ms (gm ms 0).p = some ps) : elC ms xs = 0 := by simp [elC, h, hc]
theorem elR_some {ms xs : List M} {ps : Met} (h : codeL ms xs = 0) (hc : clo ms (gm ms 0).p = some ps) : elR ms xs = eltM ps := by simp [elR, h, hc]
structure El (ms xs E : List M) (ps : Met) : Prop where
  code : codeL ms xs = 0
  clo : clo ms (gm ms 0).p = some ps
  eq : E = eltM ps
  r : elR ms xs = E
  p1 : 1 ≤ (gm ms 0).p
  p5 : (gm ms 0).p ≤ 5
  G : Pts (gm ms 0).p ms
  X : Pts (gm ms 0).p xs
  n1 : 1 ≤ ms.length
  n6 : ms.length ≤ 6
  mnd : Mnd (gm ms 0).p E
  mem : ∀ x, x ∈ E ↔ Mon ms (gm ms 0).p x
  len : E.length ≤ 300
  pos : 0 < E.length
theorem elC_el {ms xs : List M} (h : elC ms xs = 0) : ∃ E ps, El ms xs E ps := by
  by_cases hc : codeL ms xs = 0
  · obtain ⟨q1, q2, q3, q4, q5, q6⟩ := codeL_pts' hc
    cases hk : clo ms (gm ms 0).p with
    | none => rw [elC_none hc hk] at h; cases h
    | some ps =>
      have hm := clo_mnd q1 q2 q3 hk
      exact ⟨_, ps, hc, hk, rfl, elR_some hc hk, q1, q2, q3, q4, q5, q6, hm, fun x => by rw [sortM_mem, clo_mem hk], by rw [sortM_length (clo_good hk).1.nd, List.length_map]; exact (clo_good hk).1.len, hm.pos⟩
  · rw [elC_code hc] at h; exact absurd h hc
theorem elC_mon {ms xs : List M} (h : elC ms xs ≠ 0) : monC ms xs = elC ms xs := by
  by_cases hc : codeL ms xs = 0
  · cases hk : clo ms (gm ms 0).p with
    | none => rw [monC_none hc hk, elC_none hc hk]
    | some ps => exact absurd (elC_some hc hk) h
  · rw [monC_code hc, elC_code hc]
theorem El.mon {ms xs E : List M} {ps : Met} (h : El ms xs E ps) : monC ms xs = if xs.all (fun f => decide (f ∈ E)) then 0 else 4 := by
  unfold monC
  rw [if_pos h.code, h.clo, h.eq]
theorem El.mon0 {ms xs E : List M} {ps : Met} (h : El ms xs E ps) (hx : ∀ f ∈ xs, f ∈ E) : monC ms xs = 0 := by
  rw [h.mon, if_pos (by rw [List.all_eq_true]; exact fun f hf => decide_eq_true (hx f hf))]
def RetS (res : List M) (code : Int) (w : World) (e : Ending) (w' : World) : Prop := ∃ A c, e = .returned (.tuple #[.slice A res.length c, I code]) ∧ RdM w' w'.heap.size A res ∧ Below w.heap.size w w'
theorem RetS.mk {res : List M} {code : Int} {w w' : World} {e : Ending} (A : Option Addr) (c : Nat) (h : e = .returned (.tuple #[.slice A res.length c, I code])) (hr : RdM w' w'.heap.size A res) (hb : Below w.heap.size w w') : RetS res code w e w' := ⟨A, c, h, hr, hb⟩
def RetM (res : List M) (code : Int) (w : World) (e : Ending) (w' : World) : Prop := ∃ v, e = .returned (.tuple #[v, I code]) ∧ OwM 31 w' w.heap.size v res ∧ Below w.heap.size w w'
theorem RetM.mk {res : List M} {code : Int} {w w' : World} {e : Ending} (v : Value) (h : e = .returned (.tuple #[v, I code])) (hr : OwM 31 w' w.heap.size v res) (hb : Below w.heap.size w w') : RetM res code w e w' := ⟨v, h, hr, hb⟩
theorem RetM.toS {res : List M} {code : Int} {w w' : World} {e : Ending} (h : RetM res code w e w') : RetS res code w e w' := by
  obtain ⟨v, rfl, ho, hb⟩ := h
  obtain ⟨A, c, rfl, hr⟩ := ho.form
  exact ⟨A, c, rfl, hr, hb⟩
def RetSI (res : List Int) (code : Int) (w : World) (e : Ending) (w' : World) : Prop := ∃ A c, e = .returned (.tuple #[.slice A res.length c, I code]) ∧ RdI w' w'.heap.size A res ∧ Below w.heap.size w w'
theorem RetSI.mk {res : List Int} {code : Int} {w w' : World} {e : Ending} (A : Option Addr) (c : Nat) (h : e = .returned (.tuple #[.slice A res.length c, I code])) (hr : RdI w' w'.heap.size A res) (hb : Below w.heap.size w w') : RetSI res code w e w' := ⟨A, c, h, hr, hb⟩
def RetI (res : List Int) (code : Int) (w : World) (e : Ending) (w' : World) : Prop := ∃ v, e = .returned (.tuple #[v, I code]) ∧ OwI 2 w' w.heap.size v res ∧ Below w.heap.size w w'
theorem RetI.mk {res : List Int} {code : Int} {w w' : World} {e : Ending} (v : Value) (h : e = .returned (.tuple #[v, I code])) (hr : OwI 2 w' w.heap.size v res) (hb : Below w.heap.size w w') : RetI res code w e w' := ⟨v, h, hr, hb⟩
theorem RetI.toS {res : List Int} {code : Int} {w w' : World} {e : Ending} (h : RetI res code w e w') : RetSI res code w e w' := by
  obtain ⟨v, rfl, ho, hb⟩ := h
  obtain ⟨A, c, rfl, hr⟩ := ho.form
  exact ⟨A, c, rfl, hr, hb⟩
theorem l02Elements_any (A1 A2 : Option Addr) (n1 c1 n2 c2 : Nat) (ms xs : List M) (w : World) (hx : RdM w w.heap.size A1 ms) (hy : RdM w w.heap.size A2 xs) (hn : ms.length = n1) (hm : xs.length = n2)
    (hb : n1 < 1073741824) (hb2 : n2 < 1073741824) :
    Calls Tryz.prog 117 #[.slice A1 n1 c1, .slice A2 n2 c2] w (RetS (elR ms xs) (elC ms xs) w) := by
  have Hx := Lib.hid hx
  have Hy := Lib.hid hy
  have Hn := Lib.hid hn
  have Hm := Lib.hid hm
  clear hx hy hn hm
  go_enter Tryz.func117, Tryz.ntmps117
  go_wp2_with fail
  refine (l02Given_any A1 A2 n1 c1 n2 c2 ms xs _ Hx.out Hy.out Hn.out Hm.out hb hb2).mono ?_
  rintro e w1 ⟨rfl, hb1⟩
  by_cases hc : codeL ms xs = 0
  · obtain ⟨q1, q2, q3, q4, q5, q6⟩ := codeL_pts' hc
    have Hc := Lib.hid hc
    have H3 := Lib.hid q3
    have Hb1 := Lib.hid hb1
    rw [hc]
    have hx1 := Rd.below Hx.out hb1
    obtain ⟨b, off, rfl, hbb, x0, x1, x2, x3, x4, x5⟩ := RdM.at_ hx1 (k := 0) (by omega)
    rw [Nat.zero_mul, Nat.add_zero] at x0
    have hl1 : 0 < n1 := by have := Hn.out; omega
    have hz1 := Hb1.out.size
    clear hc q3 q4 hb1 hx1 x1 x2 x3 x4 x5
    go_wp2_with fail
    refine (l02Closed_any (some ⟨b, off, none⟩) n1 c1 ms (gm ms 0).p w1 (Rd.more (Rd.below Hx.out Hb1.out) Hb1.out.size) Hn.out (by omega) q1 q2 H3.out).mono ?_
    rintro e w2 ⟨v1, v2, rfl, hb2', hsome⟩
    have Hb2 := Lib.hid (Hb1.out.trans (hb2'.mono Hb1.out.size))
    have hz2 := hb2'.size
    clear x0
    cases hclo : clo ms (gm ms 0).p with
    | none =>
      have Hr := Lib.hid (elR_none Hc.out hclo)
      have Hmc := Lib.hid (elC_none Hc.out hclo)
      rw [show (none : Option Met).isSome = false from rfl]
      clear hsome hb2' hclo
      go_wp2
      go_ret2
      exact .mk none 0 (by rw [Hmc.out, Hr.out] <;> rfl) (by rw [Hr.out]; exact Rd.nil_) Hb2.out
    | some ps =>
      have Hr := Lib.hid (elR_some Hc.out hclo)
      have Hmc := Lib.hid (elC_some Hc.out hclo)
      obtain ⟨hO, _⟩ := hsome ps hclo
      have hgd := (clo_good hclo).1
      have hlen := hgd.len
      have HPv : Hid (∀ x ∈ ps.map (·.1), Valid x) := fun x hx => by
        obtain ⟨q, hq, rfl⟩ := List.mem_map.1 hx
        exact ((hgd.mon q hq).ok q1 q2 H3.out).1
      have Hnd := Lib.hid hgd.nd
      obtain ⟨P, hP⟩ : ∃ P, P = ps.map (·.1) := ⟨_, rfl⟩
      have HP := Lib.hid hP
      obtain ⟨N, hN⟩ : ∃ N, N = ps.length := ⟨_, rfl⟩
      have HN : Hid (P.length = N) := by show _ = _; rw [hP, hN, List.length_map]
      rw [← hP] at hO HPv Hnd
      rw [← hN] at hlen
      obtain ⟨A3, c3, e3, hr3⟩ := hO.form
      rw [HN.out] at e3
      subst e3
      have HO := Lib.hid hr3
      rw [show (some ps : Option Met).isSome = true from rfl]
      clear hsome hb2' hclo hO hr3 hgd hP hN
      go_wp2_with fail
      go_loopw [10, 11] (fun v i wr => ∃ (r : Nat) (A : Addr) (c : Nat), i = .int .i64 r ∧ r ≤ N ∧ v = .slice (some A) (sortM (P.take r)).length c ∧ (sortM (P.take r)).length ≤ c ∧ RdM wr wr.heap.size (some A) (sortM (P.take r)) ∧ Below w2.heap.size w2 wr) (fun _ i _ => N - (intOf i).toNat)
      case atStart =>
        refine ⟨0, ⟨w2.heap.size, 0, none⟩, 0, rfl, by omega, rfl, Nat.le_refl _, Rd.nil_, (Below.refl _ _).alloc (Nat.le_refl _) _⟩
      case round =>
        obtain ⟨r, A, c, rfl, hr, rfl, hc, hR, hb⟩ := hrel
        have HR := Lib.hid hR
        have Hb := Lib.hid hb
        have Hcc := Lib.hid hc
        have hz := hb.size
        have hsl : (sortM (P.take r)).length = r := by
          rw [sortM_length (Hnd.out.sublist (List.take_sublist _ _)), List.length_take, HN.out]; omega
        have Hsl := Lib.hid hsl
        rw [hsl]
        clear hR hb hc hsl
        by_cases hrl : r < N
        · have hrE : (r : Int) < (N : Int) := by omega
          obtain ⟨b2, off2, rfl, hbb2, h6⟩ := RdM.at_ (Rd.below HO.out Hb.out) (k := r) (by rw [HN.out]; exact hrl)
          obtain ⟨f, hf⟩ : ∃ f, f = gm P r := ⟨_, rfl⟩
          rw [← hf] at h6
          have hvf : Valid f := HPv.out f (by rw [hf]; exact gm_mem (by rw [HN.out]; exact hrl))
          have htk : P.take (r + 1) = P.take r ++ [f] := by rw [List.take_add_one, hf, gm_eq (by rw [HN.out]; exact hrl), List.getElem?_eq_getElem (by rw [HN.out]; exact hrl)]; rfl
          have HEv : Hid (∀ x ∈ sortM (P.take r), Valid x) := fun x hx => HPv.out x (List.mem_of_mem_take (sortM_mem.1 hx))
          have hins : insM f (sortM (P.take r)) = sortM (P.take (r + 1)) := by rw [htk, sortM_snoc]
          have hsl2 : (sortM (P.take (r + 1))).length = r + 1 := by
            rw [sortM_length (Hnd.out.sublist (List.take_sublist _ _)), List.length_take, HN.out]; omega
          have Hins := Lib.hid hins
          have Hsl2 := Lib.hid hsl2
          obtain ⟨x0, x1, x2, x3, x4, x5⟩ := h6
          clear hf htk hins hsl2
          go_wp2_with fail
          refine (l01Put_any A r c (sortM (P.take r)) f _ HR.out Hsl.out (by have := Hcc.out; have := Hsl.out; omega) (by omega) (sortM_asc _) HEv.out hvf).mono ?_
          rintro e w4 ⟨A', c', rfl, hc', hr', _, hb'⟩
          rw [Hins.out] at hc' hr' ⊢
          have Hr' := Lib.hid hr'
          have Hc' := Lib.hid hc'
          have Hb' := Lib.hid (Hb.out.trans (hb'.mono hz))
          clear hc' hr' hb' x0 x1 x2 x3 x4 x5
          go_wp2
          go_roundw
          case rel => exact ⟨r + 1, A', c', by go_num, by omega, rfl, Hc'.out, Hr'.out, Hb'.out⟩
          case measure => simp [intOf]; omega
        · obtain rfl : r = N := by omega
          have hrl' : ¬ ((r : Int) < (r : Int)) := by omega
          have htk : P.take r = P := List.take_of_length_le (by rw [HN.out]; exact Nat.le_refl _)
          rw [htk] at HR Hsl
          have HE : Hid (elR ms xs = sortM P) := by show _ = _; rw [Hr.out, HP.out]
          have Hbe := Lib.hid (Hb2.out.trans (Hb.out.mono Hb2.out.size))
          clear htk
          go_wp2
          go_ret2
          exact .mk (some A) c (by rw [Hmc.out, HE.out, Hsl.out] <;> rfl) (by rw [HE.out]; exact HR.out) Hbe.out
  · have Hr := Lib.hid (elR_code hc)
    have Hmc := Lib.hid (elC_code hc)
    go_wp2
    go_ret2
    exact .mk none 0 (by rw [Hmc.out, Hr.out] <;> rfl) (by rw [Hr.out]; exact Rd.nil_) hb1
set_option maxRecDepth 100000
set_option linter.unusedSimpArgs false
def M.upd (m : M) (j : Nat) (z : Int) : M :=
  match j with
  | 0 => { m with p := z }
  | 1 => { m with t0 := z }
  | 2 => { m with t1 := z }
  | 3 => { m with t2 := z }
  | 4 => { m with t3 := z }
  | 5 => { m with t4 := z }
  | _ => m
theorem mcs_upd (j : Nat) (hj : j < 6) (z : Int) : ∀ {ms : List M} {k : Nat}, k < ms.length → mcs (ms.set k ((gm ms k).upd j z)) = (mcs ms).set (k * 6 + j) (I z)
  | [], _, h => by simp at h
  | m0 :: ms, 0, _ => by
    match j, hj with
    | 0, _ => rfl
    | 1, _ => rfl
    | 2, _ => rfl
    | 3, _ => rfl
    | 4, _ => rfl
    | 5, _ => rfl
  | m0 :: ms, k + 1, h => by
    have ih := mcs_upd j hj z (ms := ms) (k := k) (by simpa using h)
    rw [gm_cons_succ, List.set_cons_succ, mcs_cons, ih, mcs_cons]
    have e : (k + 1) * 6 + j = k * 6 + j + 6 := by omega
    rw [e]
    rfl
theorem OwM.put {e : TypeId} {w : World} {B g n c : Nat} {ms : List M} (h : OwM e w B (.slice (some ⟨g, 0, none⟩) n c) ms) {k j : Nat} (hk : k < ms.length) (hj : j < 6) (z : Int) : OwM e (w.setCell ⟨g, k * 6 + j, none⟩ (I z)) B (.slice (some ⟨g, 0, none⟩) n c) (ms.set k ((gm ms k).upd j z)) := by
  rcases h.2 with ⟨he, h0⟩ | ⟨g', cap, cur, he, hg, hh, hn, hm, hs, ht⟩
  · omega
  · injection he with e1 e2 e3
    injection e1 with e1
    injection e1 with e1 _
    subst e1 e3
    refine ⟨by rw [mcs_length], .inr ⟨g, c, cur.setIfInBounds (k * 6 + j) (I z), by rw [e2]; simp, hg, ?_, by simpa using hn, hm, by simpa using hs, ?_⟩⟩
    · simp [World.setCell, Array.getElem?_modify, hh]
    · rw [Array.toList_setIfInBounds, List.take_set, List.length_set, ht, mcs_upd j hj z hk]
set_option maxRecDepth 100000
/-! ### regions -/
section
variable {ops : Array Oper}
end
/-! ### a region that copies the list and calls -/
structure GC where
  v : Value
  r : Value
structure SC (w1 : World) (ms : List M) (R : Value → World → Prop) (b1 b4 : Bool) (c : GC) (w : World) : Prop where
  bel : Below w1.heap.size w1 w
  a : b1 = true → b4 = false → OwM 31 w w1.heap.size c.v ms
  r : b4 = true → R c.r w
section
variable {w1 w w' : World} {ms : List M} {R : Value → World → Prop} {b1 b4 : Bool} {c : GC}
theorem SC.start (hb : Below w1.heap.size w1 w) : SC w1 ms R false false c w := ⟨hb, fun h => (by cases h), fun h => (by cases h)⟩
theorem SC.below (hR : ∀ r w w', R r w → Below w.heap.size w w' → R r w') (h : SC w1 ms R b1 b4 c w) (hb : Below w.heap.size w w') : SC w1 ms R b1 b4 c w' :=
  ⟨h.bel.trans (hb.mono h.bel.size), fun e1 e2 => (h.a e1 e2).below hb (Nat.le_refl _), fun e => hR _ _ _ (h.r e) hb⟩
theorem SC.fin (h : SC w1 ms R true true c w) : R c.r w ∧ Below w1.heap.size w1 w := ⟨h.r rfl, h.bel⟩
end
def RR6 (res : List M) (r : Value) (w : World) : Prop := ∃ A c, r = .slice A res.length c ∧ RdM w w.heap.size A res
def RR1 (res : List Int) (r : Value) (w : World) : Prop := ∃ A c, r = .slice A res.length c ∧ RdI w w.heap.size A res
theorem RR6.below {res : List M} (r : Value) (w w' : World) (h : RR6 res r w) (hb : Below w.heap.size w w') : RR6 res r w' := by
  obtain ⟨A, c, e, hr⟩ := h
  exact ⟨A, c, e, Rd.more (Rd.below hr hb) hb.size⟩
theorem RR1.below {res : List Int} (r : Value) (w w' : World) (h : RR1 res r w) (hb : Below w.heap.size w w') : RR1 res r w' := by
  obtain ⟨A, c, e, hr⟩ := h
  exact ⟨A, c, e, Rd.more (Rd.below hr hb) hb.size⟩
theorem RetS.out {res : List M} {code : Int} {w w' : World} {e : Ending} (h : RetS res code w e w') : ∃ r, e = .returned (.tuple #[r, I code]) ∧ RR6 res r w' ∧ Below w.heap.size w w' := by
  obtain ⟨A, c, rfl, hr, hb⟩ := h
  exact ⟨_, rfl, ⟨A, c, rfl, hr⟩, hb⟩
theorem RetSI.out {res : List Int} {code : Int} {w w' : World} {e : Ending} (h : RetSI res code w e w') : ∃ r, e = .returned (.tuple #[r, I code]) ∧ RR1 res r w' ∧ Below w.heap.size w w' := by
  obtain ⟨A, c, rfl, hr, hb⟩ := h
  exact ⟨_, rfl, ⟨A, c, rfl, hr⟩, hb⟩
theorem OwM.rdA {e : TypeId} {w : World} {B n c : Nat} {A : Option Addr} {ms : List M} (h : OwM e w B (.slice A n c) ms) : RdM w w.heap.size A ms := by
  obtain ⟨A', c', e, hr⟩ := h.form
  injection e with e1 _ _
  subst e1
  exact hr
theorem OwI.rdA {e : TypeId} {w : World} {B n c : Nat} {A : Option Addr} {zs : List Int} (h : OwI e w B (.slice A n c) zs) : RdI w w.heap.size A zs := by
  obtain ⟨A', c', e, hr⟩ := h.form
  injection e with e1 _ _
  subst e1
  exact hr
/-! ### the state of a statement's walk -/
theorem ownsRow_keep {w w' : World} {B : Nat} {e : TypeId} {k : Nat} {v : Value} {n : Nat} {cs : List Value} (h : w.ownsRow B e k v n cs) (hk : ∀ g, v.ownBlock = some g → w'.heap[g]? = w.heap[g]?) : w'.ownsRow B e k v n cs := by
  refine ⟨h.1, ?_⟩
  rcases h.2 with hn | ⟨g, cap, cur, rfl, hg, hh, rest⟩
  · exact .inl hn
  · exact .inr ⟨g, cap, cur, rfl, hg, by rw [hk g rfl]; exact hh, rest⟩
structure LS (w : World) (A : Option Addr) (ms : List M) (bxs : List (Nat × M)) (k0 B0 : Nat) (A0 : Option Addr) (n0 : Nat) (cs0 : List Value) (bX : Nat) (vX : Value) (xs : List M) (bG : Nat) (eG : TypeId) (kG : Nat) (vG : Value) (nG : Nat) (csG : List Value) (wc : World) : Prop where
  inp : RdM w w.heap.size A ms
  bel : Below w.heap.size w wc
  box : ∀ p ∈ bxs, Six wc p.1 p.2 ∧ w.heap.size ≤ p.1 ∧ p.1 < B0
  r0 : Rd k0 wc B0 A0 n0 cs0
  ox : OwM 31 wc bX vX xs
  og : wc.ownsRow bG eG kG vG nG csG
  h0 : w.heap.size ≤ B0
  h1 : B0 ≤ bX
  h2 : ∀ g, vX.ownBlock = some g → g < bG
  h3 : bX ≤ bG
  h4 : bG ≤ wc.heap.size
section
variable {w wc w' : World} {A : Option Addr} {ms : List M} {bxs : List (Nat × M)} {k0 B0 : Nat} {A0 : Option Addr} {n0 : Nat} {cs0 : List Value} {bX : Nat} {vX : Value} {xs : List M} {bG : Nat} {eG : TypeId} {kG : Nat} {vG : Value} {nG : Nat} {csG : List Value}
theorem LS.start (hi : RdM w w.heap.size A ms) (hb : Below w.heap.size w wc) (hx : ∀ p ∈ bxs, Six wc p.1 p.2 ∧ w.heap.size ≤ p.1) : LS w A ms bxs 6 wc.heap.size none 0 [] wc.heap.size (.slice none 0 0) [] wc.heap.size 31 6 (.slice none 0 0) 0 [] wc where
  inp := hi
  bel := hb
  box := fun p hp => ⟨(hx p hp).1, (hx p hp).2, (hx p hp).1.lt⟩
  r0 := Rd.nil_
  ox := OwM.nil_
  og := World.ownsRow_nil wc wc.heap.size 31 6
  h0 := hb.size
  h1 := Nat.le_refl _
  h2 := fun g hg => by cases hg
  h3 := Nat.le_refl _
  h4 := Nat.le_refl _
theorem LS.below (h : LS w A ms bxs k0 B0 A0 n0 cs0 bX vX xs bG eG kG vG nG csG wc) (hb : Below wc.heap.size wc w') : LS w A ms bxs k0 B0 A0 n0 cs0 bX vX xs bG eG kG vG nG csG w' where
  inp := h.inp
  bel := h.bel.trans (hb.mono h.bel.size)
  box := fun p hp => ⟨(h.box p hp).1.below hb (h.box p hp).1.lt, (h.box p hp).2⟩
  r0 := h.r0.below' hb (Nat.le_trans h.h1 (Nat.le_trans h.h3 h.h4))
  ox := h.ox.below hb (Nat.le_refl _)
  og := ownsRow_keep h.og fun g hg => hb.block g (World.ownsRow.lt h.og g hg).2
  h0 := h.h0
  h1 := h.h1
  h2 := h.h2
  h3 := h.h3
  h4 := Nat.le_trans h.h4 hb.size
theorem LS.setR (h : LS w A ms bxs k0 B0 A0 n0 cs0 bX vX xs bG eG kG vG nG csG wc) {k : Nat} {A' : Option Addr} {n : Nat} {cs : List Value} (hr : Rd k wc wc.heap.size A' n cs) : LS w A ms bxs k wc.heap.size A' n cs wc.heap.size (.slice none 0 0) [] wc.heap.size 31 6 (.slice none 0 0) 0 [] wc where
  inp := h.inp
  bel := h.bel
  box := fun p hp => ⟨(h.box p hp).1, (h.box p hp).2.1, (h.box p hp).1.lt⟩
  r0 := hr
  ox := OwM.nil_
  og := World.ownsRow_nil wc wc.heap.size 31 6
  h0 := h.bel.size
  h1 := Nat.le_refl _
  h2 := fun g hg => by cases hg
  h3 := Nat.le_refl _
  h4 := Nat.le_refl _
theorem LS.list (h : LS w A ms bxs k0 B0 A0 n0 cs0 bX vX xs bG eG kG vG nG csG wc) : RdM wc wc.heap.size A ms := Rd.more (Rd.below h.inp h.bel) h.bel.size
theorem LS.res (h : LS w A ms bxs k0 B0 A0 n0 cs0 bX vX xs bG eG kG vG nG csG wc) : Rd k0 wc wc.heap.size A0 n0 cs0 := Rd.more h.r0 (Nat.le_trans h.h1 (Nat.le_trans h.h3 h.h4))
end
set_option maxRecDepth 100000
set_option linter.unusedSimpArgs false
theorem monC_nil (ms : List M) : monC ms [] = elC ms [] := by
  by_cases h : elC ms [] = 0
  · obtain ⟨E, ps, hE⟩ := elC_el h
    rw [h]
    exact hE.mon0 (by simp)
  · exact elC_mon h
theorem rd_one {w : World} {f : M} {b : Nat} (h : Six w b f) : RdM w w.heap.size (some ⟨b, 0, none⟩) [f] := by
  refine ⟨by simp [mcs], fun _ => ⟨b, 0, rfl, h.lt, fun j u hj => ?_⟩⟩
  obtain ⟨c0, c1, c2, c3, c4, c5⟩ := h
  rw [Nat.zero_add]
  simp only [mcs, List.flatMap_cons, List.flatMap_nil, List.append_nil] at hj
  match j, hj with
  | 0, hj => simp at hj; subst hj; exact c0
  | 1, hj => simp at hj; subst hj; exact c1
  | 2, hj => simp at hj; subst hj; exact c2
  | 3, hj => simp at hj; subst hj; exact c3
  | 4, hj => simp at hj; subst hj; exact c4
  | 5, hj => simp at hj; subst hj; exact c5
  | n + 6, hj => simp at hj
/-! ### IsElement -/
end Go.Proofs.YtkbfocoaobiijaaGreat

namespace Go.Proofs.YtkbfocoaobiijaaGreat
open Go.RowKit
set_option maxRecDepth 100000
set_option linter.unusedSimpArgs false
/-! ### central elements -/
/-! ### zeros of one side -/
/-! ### some element is such -/
theorem any1_any (fn : Nat) (caps : Array Value) (b i N : Nat) (p : Nat → Bool) (w : World) (hc : PredC fn caps N p w) (hi : i < N) (c1 : w.cell? ⟨b, 0, none⟩ = some (.func (.func fn) #[] caps)) :
    Calls Tryz.prog 235 #[I i, .pointer (some ⟨b, 0, none⟩)] w fun e w' => e = .returned (.bool (!p i)) ∧ Below w.heap.size w w' := by
  obtain ⟨eg, hc⟩ := hc
  have Hc := Lib.hid (hc w (Below.refl _ _) i hi)
  clear hc
  go_enter Tryz.func235, Tryz.ntmps235
  go_wp2_with fail
  refine Hc.out.mono ?_
  rintro e w1 ⟨rfl, hb1⟩
  go_wp2
  go_ret
  exact ⟨rfl, hb1⟩
theorem any_any {n : Int} {B g : Nat} {E : List M} {us : List (List Int)} (fn : Nat) (caps : Array Value) (p : Nat → Bool) (w : World) (h : MonAt n B g E us w) (hE : E.length ≤ 300) (hpos : 0 < E.length) (hc : PredC fn caps E.length p w) :
    Calls Tryz.prog 167 #[.pointer (some ⟨g, 0, none⟩), .func (.func fn) #[] caps] w fun e w' => e = .returned (.bool ((List.range E.length).any p)) ∧ Below w.heap.size w w' := by
  obtain ⟨wb, hwb⟩ : ∃ wb, wb = w.alloc (.cells #[.func (.func fn) #[] caps] 105) := ⟨_, rfl⟩
  have hbb : Below w.heap.size w wb := by rw [hwb]; exact (Below.refl _ _).alloc (Nat.le_refl _) _
  have c1 : wb.cell? ⟨w.heap.size, 0, none⟩ = some (.func (.func fn) #[] caps) := by rw [hwb]; exact (Blk.new w _ _).cell 0
  have l1 := World.block_lt_of_cell? wb ⟨w.heap.size, 0, none⟩ c1
  have HP : Hid (PredC 235 #[.pointer (some ⟨w.heap.size, 0, none⟩)] E.length (fun i => !p i) wb) :=
    ⟨enters_of Tryz.func235 (by kernel_rfl) rfl, fun w' hb' k hk => any1_any fn caps _ k E.length p w' ((hc.below hbb).below hb') hk ((hb'.cell l1).trans c1)⟩
  have HM := Lib.hid (h.below hbb (Nat.le_refl _))
  have Hbb := Lib.hid hbb
  have Hwb := Lib.hid hwb
  have Hn : Hid ((!(List.range E.length).all fun i => !p i) = (List.range E.length).any p) := by
    show _ = _
    rw [Bool.eq_iff_iff]; simp
  clear h hbb hwb c1 l1 hc
  go_enter Tryz.func167, Tryz.ntmps167
  go_wp2_with fail
  rw [← Hwb.out]
  refine (all_any _ _ _ wb HM.out hE hpos HP.out).mono ?_
  rintro e w1 ⟨rfl, hb1⟩
  have Hb := Lib.hid (Hbb.out.trans (hb1.mono Hbb.out.size))
  clear hb1
  go_wp2
  go_ret
  exact ⟨ret_bool Hn.out, Hb.out⟩
set_option maxRecDepth 100000
set_option linter.unusedSimpArgs false
set_option maxRecDepth 100000
set_option linter.unusedSimpArgs false
/-! ### zeros -/
set_option maxRecDepth 100000
set_option linter.unusedSimpArgs false
end Go.Proofs.YtkbfocoaobiijaaGreat

namespace Go.Proofs.YtkbfocoaobiijaaGreat
open Go.RowKit
set_option maxRecDepth 100000
set_option linter.unusedSimpArgs false
theorem RdM.six {w : World} {B b off : Nat} {E : List M} (h : RdM w B (some ⟨b, off, none⟩) E) {k : Nat} (hk : k < E.length) : SixAt w b (off + k * 6) (gm E k) ∧ b < B := by
  obtain ⟨b', off', e, hb, h6⟩ := RdM.at_ h hk
  injection e with e
  injection e with e1 e2 _
  subst e1 e2
  exact ⟨h6, hb⟩
end Go.Proofs.YtkbfocoaobiijaaGreat

namespace Go.Proofs.YtkbfocoaobiijaaGreat
open Go.RowKit
set_option maxRecDepth 100000
set_option linter.unusedSimpArgs false
set_option linter.unusedVariables false
theorem l03Index_any (A : Option Addr) (N c : Nat) (E : List M) (f : M) (w : World) (hx : RdM w w.heap.size A E) (hn : E.length = N) (hN : N < 1073741824) (hA : Asc E) (hE : ∀ g ∈ E, Valid g) (hf : Valid f) :
    Calls Tryz.prog 229 #[.slice A N c, .agg (mc f)] w fun e w' => e = .returned (I (plOf E f - 1)) ∧ Below w.heap.size w w' := by
  have Hx := Lib.hid hx
  have Hn := Lib.hid hn
  have HE := Lib.hid hE
  have HA := Lib.hid hA
  clear hx hn hE hA
  go_enter Tryz.func229, Tryz.ntmps229
  go_wp2_with fail
  obtain ⟨wb, hwb⟩ : ∃ wb, wb = w.alloc (.cells (mc f) 31) := ⟨_, rfl⟩
  have H6 : Hid (Six wb w.heap.size f) := by show Six _ _ _; rw [hwb]; exact Blk.six (Blk.new w _ _)
  have Hbb : Hid (Below w.heap.size w wb) := by show Below _ _ _; rw [hwb]; exact (Below.refl _ _).alloc (Nat.le_refl _) _
  have hsb : wb.heap.size = w.heap.size + 1 := by rw [hwb]; simp
  try rw [← hwb]
  clear hwb
  go_loopw [5, 6] (fun lo hi wr => ∃ a b : Nat, lo = .int .i64 a ∧ hi = .int .i64 b ∧ a ≤ b ∧ b ≤ N ∧ Below wb.heap.size wb wr ∧ Cut E f a b) (fun lo hi _ => (intOf hi).toNat - (intOf lo).toNat)
  case atStart => exact ⟨0, N, rfl, rfl, by omega, Nat.le_refl _, Below.refl _ _, fun j hj => by omega, fun j hj hl => by rw [Hn.out] at hl; omega⟩
  case round =>
    obtain ⟨a, b, rfl, rfl, hab, hbN, hb, hC⟩ := hrel
    have Hb := Lib.hid hb
    have HC := Lib.hid hC
    have hsz := hb.size
    clear hb hC
    by_cases hlt : a < b
    · have hi : (a : Int) < (b : Int) := by omega
      obtain ⟨k, hk⟩ : ∃ k : Nat, ((a : Int) + (b : Int)) / 2 = k := ⟨(a + b) / 2, by omega⟩
      have hak : a ≤ k := by omega
      have hkb : k < b := by omega
      go_wp2_with fail
      rw [hk]
      clear hk
      obtain ⟨b2, off2, rfl, hbb2, h6⟩ := RdM.at_ (Rd.below (Rd.below Hx.out Hbb.out) (Hb.out.mono Hbb.out.size)) (k := k) (by rw [Hn.out]; omega)
      obtain ⟨g, hg⟩ : ∃ g, g = gm E k := ⟨_, rfl⟩
      rw [← hg] at h6
      have hvg : Valid g := HE.out g (by rw [hg]; exact gm_mem (by rw [Hn.out]; omega))
      have H6k := Lib.hid h6
      have hkN : (k : Int) < (N : Int) := by omega
      have h6l : b2 < wr.heap.size := by omega
      have H6w := Lib.hid (H6.out.below Hb.out (by omega))
      have h6wl : w.heap.size < wr.heap.size := by omega
      have Hg := Lib.hid hg
      clear h6 hg
      refine wp_region_same [] rfl (by kernel_rfl) (by kernel_rfl) (by kernel_rfl) (fun w' => Below wr.heap.size wr w') _
        [.slice (some ⟨b2, off2, none⟩) N c, I k, .pointer (some ⟨b2, off2 + k * 6, none⟩), .agg (mc g), .agg (mc f), .bool (lessM g f)]
        (by simp only [putAll, List.setIfInBounds_toArray, List.set_cons_succ, List.set_cons_zero]; rfl) (Below.refl _ _).drew ?hop ?hQ
      case hop =>
        refine FixBL.toL (fun w' w'' hS hb => hS.trans (hb.mono hS.size)) _ _ ?_
        refine ⟨.inr ?_, .inr ?_, .inr ?_, .inr ?_, .inr ?_, .inr ?_, trivial⟩
        · (with_reducible refine FixB.of ?_ ?_; rfl; intro w' hS; have s0 := H6k.out.below hS h6l; have s1 := H6w.out.below hS h6wl; clear hS; unfold Oper.wp; go_simp; first | done | exact Below.refl _ _)
        · (with_reducible refine FixB.of ?_ ?_; rfl; intro w' hS; have s0 := H6k.out.below hS h6l; have s1 := H6w.out.below hS h6wl; clear hS; unfold Oper.wp; go_simp; first | done | exact Below.refl _ _)
        · (with_reducible refine FixB.of ?_ ?_; rfl; intro w' hS; have s0 := H6k.out.below hS h6l; have s1 := H6w.out.below hS h6wl; clear hS; unfold Oper.wp; go_simp; first | done | exact Below.refl _ _)
        · (with_reducible refine FixB.of ?_ ?_; rfl; intro w' hS; have s0 := H6k.out.below hS h6l; have s1 := H6w.out.below hS h6wl; clear hS; unfold Oper.wp; go_simp; first | done | exact Below.refl _ _)
        · (with_reducible refine FixB.of ?_ ?_; rfl; intro w' hS; have s0 := H6k.out.below hS h6l; have s1 := H6w.out.below hS h6wl; clear hS; unfold Oper.wp; go_simp; first | done | exact Below.refl _ _)
        · (with_reducible refine FixB.of ?_ ?_; rfl; intro w' hS; have s3 := Lib.hid hS; unfold Oper.wp; clear hS; go_simp; refine (l01Less_any g f _ hvg hf).mono ?_; rintro e w1 ⟨rfl, hb⟩; exact ⟨rfl, hb⟩)
      case hQ =>
        intro wc hS _
        have Hb3 := Lib.hid (Hb.out.trans (hS.mono hsz))
        clear hS H6k H6w
        cases hl : lessM g f
        · have HC2 := Lib.hid (HC.out.down HA.out (k := k) (by rw [← Hg.out]; exact hl))
          go_wp2
          go_roundw
          case rel => exact ⟨a, k, by go_num, by go_num, by omega, by omega, Hb3.out, HC2.out⟩
          case measure => simp [intOf]; omega
        · have HC2 := Lib.hid (HC.out.up HA.out (k := k) (by rw [Hn.out]; omega) (by rw [← Hg.out]; exact hl))
          go_wp2
          go_roundw
          case rel => exact ⟨k + 1, b, by go_num, by go_num, by omega, by omega, Hb3.out, HC2.out⟩
          case measure => simp [intOf]; omega
    · obtain rfl : a = b := by omega
      have hi : ¬ ((a : Int) < (a : Int)) := by omega
      have H6w := Lib.hid (H6.out.below Hb.out (by omega))
      have h6wl : w.heap.size < wr.heap.size := by omega
      have Hbw := Lib.hid (Hbb.out.trans (Hb.out.mono Hbb.out.size))
      have b0 := plOf_bd E f
      by_cases haN : a < N
      · obtain ⟨b2, off2, rfl, hbb2, h6⟩ := RdM.at_ (Rd.below Hx.out Hbw.out) (k := a) (by rw [Hn.out]; omega)
        obtain ⟨g, hg⟩ : ∃ g, g = gm E a := ⟨_, rfl⟩
        rw [← hg] at h6
        have H6k := Lib.hid h6
        have hkN : (a : Int) < (N : Int) := by omega
        have h6l : b2 < wr.heap.size := by omega
        have heq := eqMap_run g f
        obtain ⟨d, hd⟩ : ∃ d, d = decide (g = f) := ⟨_, rfl⟩
        rw [← hd] at heq
        have Hd := Lib.hid hd
        have Hg := Lib.hid hg
        clear h6 hg hd b0
        go_wp2_with fail
        refine wp_region_same [] rfl (by kernel_rfl) (by kernel_rfl) (by kernel_rfl) (fun w' => Below wr.heap.size wr w') _
          [I a, .slice (some ⟨b2, off2, none⟩) N c, I N, .bool true, .bool true, .slice (some ⟨b2, off2, none⟩) N c, I a, .pointer (some ⟨b2, off2 + a * 6, none⟩), .agg (mc g), .agg (mc f), .bool d, .bool d]
          (by simp only [putAll, List.setIfInBounds_toArray, List.set_cons_succ, List.set_cons_zero]; rfl) (Below.refl _ _).drew ?hop ?hQ
        case hop =>
          refine FixBL.toL (fun w' w'' hS hb => hS.trans (hb.mono hS.size)) _ _ ?_
          refine ⟨.inr ?_, .inr ?_, .inr ?_, .inr ?_, .inr ?_, .inr ?_, .inr ?_, .inr ?_, .inr ?_, .inr ?_, .inr ?_, .inr ?_, trivial⟩
          · (with_reducible refine FixB.of ?_ ?_; rfl; intro w' hS; have s0 := H6k.out.below hS h6l; have s1 := H6w.out.below hS h6wl; clear hS; unfold Oper.wp; go_simp; first | done | exact Below.refl _ _)
          · (with_reducible refine FixB.of ?_ ?_; rfl; intro w' hS; have s0 := H6k.out.below hS h6l; have s1 := H6w.out.below hS h6wl; clear hS; unfold Oper.wp; go_simp; first | done | exact Below.refl _ _)
          · (with_reducible refine FixB.of ?_ ?_; rfl; intro w' hS; have s0 := H6k.out.below hS h6l; have s1 := H6w.out.below hS h6wl; clear hS; unfold Oper.wp; go_simp; first | done | exact Below.refl _ _)
          · (with_reducible refine FixB.of ?_ ?_; rfl; intro w' hS; have s0 := H6k.out.below hS h6l; have s1 := H6w.out.below hS h6wl; clear hS; unfold Oper.wp; go_simp; first | done | exact Below.refl _ _)
          · (with_reducible refine FixB.of ?_ ?_; rfl; intro w' hS; have s0 := H6k.out.below hS h6l; have s1 := H6w.out.below hS h6wl; clear hS; unfold Oper.wp; go_simp; first | done | exact Below.refl _ _)
          · (refine FixB.on (by first | rfl | kernel_rfl | (simp [Region.wanted, yielded]; done)) ?_; intro w' hS; have s0 := H6k.out.below hS h6l; have s1 := H6w.out.below hS h6wl; clear hS; unfold Oper.wp; go_simp; first | done | exact Below.refl _ _)
          · (refine FixB.on (by first | rfl | kernel_rfl | (simp [Region.wanted, yielded]; done)) ?_; intro w' hS; have s0 := H6k.out.below hS h6l; have s1 := H6w.out.below hS h6wl; clear hS; unfold Oper.wp; go_simp; first | done | exact Below.refl _ _)
          · (refine FixB.on (by first | rfl | kernel_rfl | (simp [Region.wanted, yielded]; done)) ?_; intro w' hS; have s0 := H6k.out.below hS h6l; have s1 := H6w.out.below hS h6wl; clear hS; unfold Oper.wp; go_simp; first | done | exact Below.refl _ _)
          · (refine FixB.on (by first | rfl | kernel_rfl | (simp [Region.wanted, yielded]; done)) ?_; intro w' hS; have s0 := H6k.out.below hS h6l; have s1 := H6w.out.below hS h6wl; clear hS; unfold Oper.wp; go_simp; first | done | exact Below.refl _ _)
          · (refine FixB.on (by first | rfl | kernel_rfl | (simp [Region.wanted, yielded]; done)) ?_; intro w' hS; have s0 := H6k.out.below hS h6l; have s1 := H6w.out.below hS h6wl; clear hS; unfold Oper.wp; go_simp; first | done | exact Below.refl _ _)
          · (refine FixB.on (by first | rfl | kernel_rfl | (simp [Region.wanted, yielded]; done)) ?_; intro w' hS; have s0 := H6k.out.below hS h6l; have s1 := H6w.out.below hS h6wl; clear hS; unfold Oper.wp; go_simp; first | done | exact Below.refl _ _)
          · (with_reducible refine FixB.of ?_ ?_; rfl; intro w' hS; have s0 := H6k.out.below hS h6l; have s1 := H6w.out.below hS h6wl; clear hS; unfold Oper.wp; go_simp; first | done | exact Below.refl _ _)
        case hQ =>
          intro wc hS _
          have Hb3 := Lib.hid (Hbw.out.trans (hS.mono Hbw.out.size))
          clear hS H6k H6w heq
          have he := HC.out.eq HA.out (by rw [Hn.out]; exact haN)
          rw [← Hg.out] at he
          cases hdd : d
          · have hnf : f ∉ E := fun h => by have := Hd.out; rw [hdd, he.2 h] at this; simp at this
            have Hp : Hid (plOf E f - 1 = -1) := by show _ = _; rw [plOf_out hnf]; rfl
            clear he
            go_wp2
            go_ret
            exact ⟨by rw [Hp.out] <;> rfl, Hb3.out⟩
          · have hgf : g = f := by have := Hd.out; rw [hdd] at this; exact of_decide_eq_true this.symm
            have hin := he.1 hgf
            have Hp : Hid (plOf E f - 1 = (a : Int)) := by show _ = _; rw [plOf_in hin, (HC.out.in_ HA.out hin).2.2]; omega
            have hw1 : IntKind.i64.wrap (a : Int) = a := IntWalk.i64_in _ ⟨by omega, by omega⟩
            clear he hgf
            go_wp2
            go_ret
            exact ⟨by rw [Hp.out] <;> rfl, Hb3.out⟩
      · have hnf : f ∉ E := fun h => by have := (HC.out.in_ HA.out h).1; rw [Hn.out] at this; omega
        have Hp : Hid (plOf E f - 1 = -1) := by show _ = _; rw [plOf_out hnf]; rfl
        have hkN : ¬ ((a : Int) < (N : Int)) := by omega
        clear b0
        go_wp2_with fail
        refine wp_region_same [] rfl (by kernel_rfl) (by kernel_rfl) (by kernel_rfl) (fun w' => Below wr.heap.size wr w') _
          [I a, .slice A N c, I N, .bool false, .bool false, undef, undef, undef, undef, undef, undef, .bool false]
          (by simp only [putAll, List.setIfInBounds_toArray, List.set_cons_succ, List.set_cons_zero]; rfl) (Below.refl _ _).drew ?hop ?hQ
        case hop =>
          refine FixBL.toL (fun w' w'' hS hb => hS.trans (hb.mono hS.size)) _ _ ?_
          refine ⟨.inr ?_, .inr ?_, .inr ?_, .inr ?_, .inr ?_, .inr ?_, .inr ?_, .inr ?_, .inr ?_, .inr ?_, .inr ?_, .inr ?_, trivial⟩
          · (with_reducible refine FixB.of ?_ ?_; rfl; intro w' hS; clear hS; unfold Oper.wp; go_simp; first | done | exact Below.refl _ _)
          · (with_reducible refine FixB.of ?_ ?_; rfl; intro w' hS; clear hS; unfold Oper.wp; go_simp; first | done | exact Below.refl _ _)
          · (with_reducible refine FixB.of ?_ ?_; rfl; intro w' hS; clear hS; unfold Oper.wp; go_simp; first | done | exact Below.refl _ _)
          · (with_reducible refine FixB.of ?_ ?_; rfl; intro w' hS; clear hS; unfold Oper.wp; go_simp; first | done | exact Below.refl _ _)
          · (with_reducible refine FixB.of ?_ ?_; rfl; intro w' hS; clear hS; unfold Oper.wp; go_simp; first | done | exact Below.refl _ _)
          · exact FixB.off (by first | rfl | kernel_rfl | (simp [Region.wanted, yielded]; done)) rfl
          · exact FixB.off (by first | rfl | kernel_rfl | (simp [Region.wanted, yielded]; done)) rfl
          · exact FixB.off (by first | rfl | kernel_rfl | (simp [Region.wanted, yielded]; done)) rfl
          · exact FixB.off (by first | rfl | kernel_rfl | (simp [Region.wanted, yielded]; done)) rfl
          · exact FixB.off (by first | rfl | kernel_rfl | (simp [Region.wanted, yielded]; done)) rfl
          · exact FixB.off (by first | rfl | kernel_rfl | (simp [Region.wanted, yielded]; done)) rfl
          · (with_reducible refine FixB.of ?_ ?_; rfl; intro w' hS; clear hS; unfold Oper.wp; go_simp; first | done | exact Below.refl _ _)
        case hQ =>
          intro wc hS _
          have Hb3 := Lib.hid (Hbw.out.trans (hS.mono Hbw.out.size))
          clear hS
          go_wp2
          go_ret
          exact ⟨by rw [Hp.out] <;> rfl, Hb3.out⟩
abbrev TB : TypeId := 4
def Bls (w : World) (g n : Nat) (Q : Nat → Bool) : Prop := ∃ cur : Array Value, Blk w g TB cur ∧ cur.size = n ∧ ∀ i, i < n → cur[i]? = some (.bool (Q i))
section
variable {w w' : World} {g n : Nat} {Q Q' : Nat → Bool}
theorem Bls.lt (h : Bls w g n Q) : g < w.heap.size := by obtain ⟨_, h, _⟩ := h; exact h.lt
theorem Bls.below {B : Nat} (h : Bls w g n Q) (hb : Below B w w') (hg : g < B) : Bls w' g n Q := by obtain ⟨c, h, h1⟩ := h; exact ⟨c, h.below hb hg, h1⟩
theorem Bls.grown {row : Option Nat} (h : Bls w g n Q) (hb : w.grownBy w' row) (hg : some g ≠ row) : Bls w' g n Q := by obtain ⟨c, h, h1⟩ := h; exact ⟨c, h.grown hb hg, h1⟩
theorem Bls.cell (h : Bls w g n Q) {i : Nat} (hi : i < n) : w.cell? ⟨g, i, none⟩ = some (.bool (Q i)) := by obtain ⟨c, h, _, h1⟩ := h; rw [h.cell]; exact h1 i hi
theorem Bls.frozen (h : Bls w g n Q) (i : Nat) : w.frozen? ⟨g, i, none⟩ = false := by obtain ⟨c, h, _⟩ := h; exact h.frozen i
theorem Bls.congr (h : Bls w g n Q) (e : ∀ i, i < n → Q i = Q' i) : Bls w g n Q' := by
  obtain ⟨c, h, h1, h2⟩ := h
  exact ⟨c, h, h1, fun i hi => by rw [← e i hi]; exact h2 i hi⟩
theorem Bls.set (h : Bls w g n Q) {i : Nat} (hi : i < n) : Bls (w.setCell ⟨g, i, none⟩ (.bool true)) g n fun a => Q a || decide (a = i) := by
  obtain ⟨c, h, h1, h2⟩ := h
  refine ⟨_, h.set_ _ _, by simpa using h1, fun a ha => ?_⟩
  rw [Array.getElem?_setIfInBounds]
  by_cases e : i = a
  · rw [if_pos e, if_pos (by omega)]
    simp [e]
  · rw [if_neg e]
    rw [h2 a ha]
    have : ¬ a = i := fun h => e h.symm
    simp [this]
end
theorem infoB : (Tryz.prog.info? TB).map (fun i => (i.zero, i.size, i.bytes)) = some (some (.bool false), 1, 1) := by kernel_rfl
theorem made_one (n : Nat) : (madeCells (Value.bool false).cells n).toList = List.replicate n (.bool false) := by
  have hz : ∀ j, j < 1 → ((Value.bool false).cells)[j]! = .bool false := by
    intro j hj
    match j, hj with
    | 0, _ => rfl
  refine List.ext_getElem (by simp [madeCells]) fun j h1 h2 => ?_
  rw [List.getElem_replicate]
  simp only [madeCells, Array.toList_map, List.getElem_map]
  exact hz _ (Nat.mod_lt _ (by decide))
theorem madeB {w : World} {B n h : Nat} (hr : w.ownsRow B TB 1 (.slice (some ⟨h, 0, none⟩) n n) n (madeCells (Value.bool false).cells (n * 1)).toList) : Bls w h n fun _ => false := by
  rw [made_one] at hr
  rcases hr.2 with ⟨he, _⟩ | ⟨g, cap, cur, he, hg, hh, hn, hm, hs, ht⟩
  · cases he
  · injection he with he1 _ he2
    injection he1 with he1
    injection he1 with he1
    subst he1 he2
    refine ⟨cur, hh, by simpa using hs, fun i hi => ?_⟩
    have h2 : (cur.toList.take (n * 1))[i]? = some (.bool false) := by rw [ht, List.getElem?_replicate, if_pos (by omega)]
    rw [List.getElem?_take, if_pos (by omega), Array.getElem?_toList] at h2
    exact h2
/-! ### the search -/
def addQ (L : List Nat) (x : Nat) : List Nat := if x ∈ L then L else L ++ [x]
theorem addQ_mem (L : List Nat) (x : Nat) : x ∈ addQ L x := by unfold addQ; split <;> simp [*]
theorem addQ_of {L : List Nat} {x y : Nat} (h : y ∈ L) : y ∈ addQ L x := by unfold addQ; split <;> simp [*]
theorem addQ_in {L : List Nat} {x y : Nat} (h : y ∈ addQ L x) : y ∈ L ∨ y = x := by unfold addQ at h; split at h <;> simp_all
theorem addQ_get {L : List Nat} {x j : Nat} (h : j < L.length) : (addQ L x)[j]? = L[j]? := by unfold addQ; split <;> simp [List.getElem?_append, h]
theorem addQ_nd {L : List Nat} {x : Nat} (h : L.Nodup) : (addQ L x).Nodup := by
  unfold addQ; split
  · exact h
  · rw [List.nodup_append]; exact ⟨h, by simp, by simp; intro a ha e; subst e; contradiction⟩
structure Rch (E ms : List M) (l r : Bool) (i0 : Nat) (L : List Nat) (a q : Nat) : Prop where
  nd : L.Nodup
  ok : ∀ x ∈ L, x < E.length ∧ Rel E l r (gm E i0) (gm E x)
  i0 : i0 ∈ L
  cl : ∀ j x, L[j]? = some x → ∀ i, i < ms.length → (j < a ∨ j = a ∧ i < q) → (l = true → ix E (mul (gm ms i) (gm E x)) ∈ L) ∧ (r = true → ix E (mul (gm E x) (gm ms i)) ∈ L)
theorem Rch.len {E ms : List M} {l r : Bool} {i0 : Nat} {L : List Nat} {a q : Nat} (h : Rch E ms l r i0 L a q) : L.length ≤ E.length := by
  have := nodup_sub_len h.nd (b := List.range E.length) fun x hx => by simpa using (h.ok x hx).1
  simpa using this
set_option maxRecDepth 100000
set_option linter.unusedSimpArgs false
set_option linter.unusedVariables false
section
variable {E ms : List M} {n : Int} {l r : Bool} {i0 a q x : Nat} {L : List Nat}
theorem Rch.start (hm : Mnd n E) (hi : i0 < E.length) : Rch E ms l r i0 [i0] 0 0 :=
  ⟨by simp, fun x hx => by simp at hx; subst hx; exact ⟨hi, Rel.refl hm (gm_mem hi)⟩, by simp, fun j x _ i _ h => by omega⟩
theorem Rch.row (h : Rch E ms l r i0 L a ms.length) : Rch E ms l r i0 L (a + 1) 0 :=
  ⟨h.nd, h.ok, h.i0, fun j x hj i hi h2 => h.cl j x hj i hi (by omega)⟩
theorem Rch.add (h : Rch E ms l r i0 L a q) (ha : a < L.length) {y : Nat} (hy : y < E.length ∧ Rel E l r (gm E i0) (gm E y)) : Rch E ms l r i0 (addQ L y) a q :=
  ⟨addQ_nd h.nd, fun z hz => by
    rcases addQ_in hz with hz | rfl
    · exact h.ok z hz
    · exact hy, addQ_of h.i0, fun j z hj i hi h2 => by
    rw [addQ_get (by omega)] at hj
    obtain ⟨h3, h4⟩ := h.cl j z hj i hi h2
    exact ⟨fun e => addQ_of (h3 e), fun e => addQ_of (h4 e)⟩⟩
theorem Rch.next (h : Rch E ms l r i0 L a q) (hx : L[a]? = some x) (hL : l = true → ix E (mul (gm ms q) (gm E x)) ∈ L) (hR : r = true → ix E (mul (gm E x) (gm ms q)) ∈ L) : Rch E ms l r i0 L a (q + 1) :=
  ⟨h.nd, h.ok, h.i0, fun j z hj i hi h2 => by
    by_cases e : j = a ∧ i = q
    · obtain ⟨rfl, rfl⟩ := e
      rw [hx] at hj
      injection hj with hj
      subst hj
      exact ⟨hL, hR⟩
    · exact h.cl j z hj i hi (by omega)⟩
theorem Rch.left (h : Rch E ms l r i0 L a q) (hm : Mnd n E) (hG : ∀ i, i < ms.length → gm ms i ∈ E) (hi0 : i0 < E.length) (hx : L[a]? = some x) (hq : q < ms.length) (hl : l = true) : ix E (mul (gm ms q) (gm E x)) < E.length ∧ Rel E l r (gm E i0) (gm E (ix E (mul (gm ms q) (gm E x)))) := by
  have hok := h.ok x (List.mem_of_getElem? hx)
  have hmem := hm.mulE _ (hG q hq) _ (gm_mem hok.1)
  refine ⟨ix_lt hmem, ?_⟩
  rw [gm_ix hmem]
  exact Rel.left hm (gm_mem hi0) (hG q hq) hl hok.2
theorem Rch.right (h : Rch E ms l r i0 L a q) (hm : Mnd n E) (hG : ∀ i, i < ms.length → gm ms i ∈ E) (hi0 : i0 < E.length) (hx : L[a]? = some x) (hq : q < ms.length) (hr : r = true) : ix E (mul (gm E x) (gm ms q)) < E.length ∧ Rel E l r (gm E i0) (gm E (ix E (mul (gm E x) (gm ms q)))) := by
  have hok := h.ok x (List.mem_of_getElem? hx)
  have hmem := hm.mulE _ (gm_mem hok.1) _ (hG q hq)
  refine ⟨ix_lt hmem, ?_⟩
  rw [gm_ix hmem]
  exact Rel.right hm (gm_mem hi0) (hG q hq) hr hok.2
theorem Rch.fin (h : Rch E ms l r i0 L L.length 0) (hm : Mnd n E) (hE : ∀ x, x ∈ E ↔ Mon ms n x) (hG : Pts n ms) (hi0 : i0 < E.length) {y : Nat} (hy : y < E.length) : decide (y ∈ L) = decide (Rel E l r (gm E i0) (gm E y)) := by
  rw [Bool.eq_iff_iff, decide_eq_true_eq, decide_eq_true_eq]
  constructor
  · exact fun hy => (h.ok y hy).2
  · intro hR
    have hGE : ∀ g ∈ ms, g ∈ E := fun g hg => (hE g).2 (Mon.gen hG hg)
    have key : ∀ f ∈ L.map (gm E), ∀ g ∈ ms, (l = true → mul g f ∈ L.map (gm E)) ∧ (r = true → mul f g ∈ L.map (gm E)) := by
      intro f hf g hg
      obtain ⟨x, hx, rfl⟩ := List.mem_map.1 hf
      obtain ⟨j, hj, e⟩ := List.getElem_of_mem hx
      obtain ⟨i, hi, e2⟩ := mem_gm hg
      have hok := h.ok x hx
      have h2 := h.cl j x (by rw [List.getElem?_eq_getElem hj, e]) i hi (.inl hj)
      rw [e2] at h2
      have m1 := hm.mulE _ (hGE g hg) _ (gm_mem hok.1)
      have m2 := hm.mulE _ (gm_mem hok.1) _ (hGE g hg)
      exact ⟨fun hl => List.mem_map.2 ⟨_, h2.1 hl, gm_ix m1⟩, fun hr => List.mem_map.2 ⟨_, h2.2 hr, gm_ix m2⟩⟩
    have h3 : gm E y ∈ L.map (gm E) := reach_all hm hE hG (fun f hf => by obtain ⟨x, hx, rfl⟩ := List.mem_map.1 hf; exact gm_mem (h.ok x hx).1) (List.mem_map_of_mem h.i0)
      (fun hl f hf g hg => (key f hf g hg).1 hl) (fun hr f hf g hg => (key f hf g hg).2 hr) hR
    obtain ⟨z, hz, e⟩ := List.mem_map.1 h3
    rw [← gm_inj hm.asc.nodup (h.ok z hz).1 hy e]
    exact hz
end
def qI (L : List Nat) : List Int := L.map fun (x : Nat) => (x : Int)
theorem qI_len (L : List Nat) : (qI L).length = L.length := by simp [qI]
theorem qI_snoc (L : List Nat) (x : Nat) : qI (L ++ [x]) = qI L ++ [(x : Int)] := by simp [qI]
theorem qI_get {L : List Nat} {a x : Nat} (h : L[a]? = some x) : gi (qI L) a = (x : Int) := by
  unfold gi qI
  rw [List.getD_eq_getElem?_getD, List.getElem?_map, h]; rfl
set_option maxRecDepth 100000
set_option linter.unusedSimpArgs false
set_option linter.unusedVariables false
abbrev TN : TypeId := 3
theorem OwI.one_ {e : TypeId} {B : Nat} (w : World) (x : Int) (hb : B ≤ w.heap.size) : OwI e (w.alloc (.cells #[I x] e)) B (.slice (some ⟨w.heap.size, 0, none⟩) 1 1) [x] :=
  ⟨rfl, .inr ⟨w.heap.size, 1, #[I x], rfl, hb, Blk.new w _ _, Nat.le_refl _, by simp [maxLen], rfl, rfl⟩⟩
theorem addQ_old {L : List Nat} {x : Nat} (h : x ∈ L) : addQ L x = L := if_pos h
structure RS (w0 w : World) (N gM gq kq cq : Nat) (L : List Nat) : Prop where
  bel : Below w0.heap.size w0 w
  q : OwI TN w w0.heap.size (.slice (some ⟨gq, 0, none⟩) kq cq) (qI L)
  kq : L.length = kq
  m : Bls w gM N fun y => decide (y ∈ L)
  ne : gq ≠ gM
  gm : w0.heap.size ≤ gM
section
variable {w0 w w' : World} {N gM gq kq cq : Nat} {L : List Nat}
theorem RS.below (h : RS w0 w N gM gq kq cq L) (hb : Below w.heap.size w w') : RS w0 w' N gM gq kq cq L :=
  ⟨h.bel.trans (hb.mono h.bel.size), h.q.below hb (Nat.le_refl _), h.kq, h.m.below hb h.m.lt, h.ne, h.gm⟩
theorem RS.q4 (h : RS w0 w N gM gq kq cq L) (x : Nat) (o : Obj) : OwI TN ((w.setCell ⟨gM, x, none⟩ (.bool true)).alloc o) w0.heap.size (.slice (some ⟨gq, 0, none⟩) kq cq) (qI L) :=
  (h.q.keep (fun g hg => by injection hg with hg; exact Below.heap_setCell _ _ _ g (by rw [← hg]; exact h.ne))).alloc o
theorem RS.push (h : RS w0 w N gM gq kq cq L) {x : Nat} (hx : x < N) (hnx : x ∉ L) {w4 w5 w6 : World} {o : Obj} (h4 : w4 = w.setCell ⟨gM, x, none⟩ (.bool true)) (h5 : w5 = w4.alloc o) {g' cap : Nat} (ho : OwI TN w6 w0.heap.size (.slice (some ⟨g', 0, none⟩) (kq + 1) cap) (qI L ++ [(x : Int)]))
    (hgr : w5.grownBy w6 (some gq)) (hg : some gq = some g' ∨ g' = w5.heap.size) : RS w0 w6 N gM g' (kq + 1) cap (addQ L x) := by
  have ha : addQ L x = L ++ [x] := by unfold addQ; rw [if_neg hnx]
  have hm4 : Bls w4 gM N fun y => decide (y ∈ L) || decide (y = x) := by rw [h4]; exact h.m.set hx
  have hm5 := hm4.grown (w' := w5) (row := none) (by rw [h5]; exact World.grownBy_alloc w4 o none) (by simp)
  have hm6 := hm5.grown hgr (by simpa using Ne.symm h.ne)
  have hs4 : w4.heap.size = w.heap.size := by rw [h4]; simp [World.setCell]
  have hs5 : w5.heap.size = w.heap.size + 1 := by rw [h5]; simp [hs4]
  have hgq := (h.q.lt gq rfl).1
  have hb4 : Below w0.heap.size w0 w4 := by rw [h4]; exact h.bel.setCell (p := ⟨gM, x, none⟩) h.gm _
  have hb5 : Below w0.heap.size w0 w5 := by rw [h5]; exact hb4.alloc (by have := h.bel.size; omega) o
  have hml := h.m.lt
  refine ⟨hb5.grown hgr (by have := h.bel.size; omega) (fun k hk => by injection hk with hk; omega), by rw [ha, qI_snoc]; exact ho, by rw [ha, List.length_append, h.kq]; rfl, hm6.congr fun y _ => ?_, ?_, h.gm⟩
  · rw [ha, Bool.eq_iff_iff]; simp
  · rcases hg with e | e
    · injection e with e; rw [← e]; exact h.ne
    · omega
theorem RS.box (h : RS w0 w N gM gq kq cq L) {x : Nat} {w4 w5 w6 : World} {o : Obj} (h4 : w4 = w.setCell ⟨gM, x, none⟩ (.bool true)) (h5 : w5 = w4.alloc o) {g' hb : Nat} {f : M} (hB : Blk w hb 31 (mc f)) (hbM : hb ≠ gM) (hbq : hb ≠ gq)
    (hgr : w5.grownBy w6 (some gq)) (hg : some gq = some g' ∨ g' = w5.heap.size) : Blk w6 hb 31 (mc f) ∧ hb ≠ g' := by
  have hl := hB.lt
  have hs4 : w4.heap.size = w.heap.size := by rw [h4]; simp [World.setCell]
  have hs5 : w5.heap.size = w.heap.size + 1 := by rw [h5]; simp [hs4]
  have b4 : Blk w4 hb 31 (mc f) := by rw [h4]; exact hB.far (p := ⟨gM, x, none⟩) hbM _
  have b5 : Blk w5 hb 31 (mc f) := by rw [h5]; exact b4.alloc o
  refine ⟨b5.grown hgr (by simpa using hbq), ?_⟩
  rcases hg with e | e
  · injection e with e; rw [← e]; exact hbq
  · omega
end
def RetB (N : Nat) (Q : Nat → Bool) (w : World) (e : Ending) (w' : World) : Prop := ∃ g, e = .returned (.slice (some ⟨g, 0, none⟩) N N) ∧ w.heap.size ≤ g ∧ Bls w' g N Q ∧ Below w.heap.size w w'
set_option maxHeartbeats 4000000 in
theorem l03Reach_any (A : Option Addr) (N c : Nat) (E : List M) (Ag : Option Addr) (k cg : Nat) (ms : List M) (i0 : Nat) (l r : Bool) {n : Int} (w : World) (hx : RdM w w.heap.size A E) (hn : E.length = N) (hy : RdM w w.heap.size Ag ms) (hm2 : ms.length = k) (hN : N ≤ 300) (hk : k ≤ 6)
    (hM : Mnd n E) (hE : ∀ x, x ∈ E ↔ Mon ms n x) (hG : Pts n ms) (hi0 : i0 < N) :
    Calls Tryz.prog 169 #[.slice A N c, .slice Ag k cg, I i0, .bool l, .bool r] w (RetB N (fun y => decide (Rel E l r (gm E i0) (gm E y))) w) := by
  obtain ⟨b, off, rfl, hbb, _⟩ := RdM.at_ hx (k := i0) (by rw [hn]; exact hi0)
  obtain ⟨i, hi, hz0, hz1, hz2⟩ := info_parts infoB
  have Hx := Lib.hid hx
  have Hy := Lib.hid hy
  have Hn := Lib.hid hn
  have Hk := Lib.hid hm2
  have HM := Lib.hid hM
  have HE := Lib.hid hE
  have HG := Lib.hid hG
  have HGE : Hid (∀ i, i < ms.length → gm ms i ∈ E) := fun i hi => (hE _).2 (Mon.gen hG (gm_mem hi))
  have hi0z : (i0 : Int) < (N : Int) := by omega
  clear hx hy hn hm2 hM hE hG
  go_enter Tryz.func169, Tryz.ntmps169
  go_wp2_with (at_make; refine wpList_make_full _ rfl _ _ _ rfl w.heap.size TB i (.bool false) 1 Tryz.underlying138 hi hz0 hz1 .i64 .i64 _ _ N rfl rfl rfl rfl (by rw [hz2]; omega) (by unfold maxLen; omega) (Nat.le_refl _) ?_; intro w1 hown hgr; have hB := madeB hown; have e0 := hB.cell hi0; have z0 := hB.frozen i0; have l0 := hB.lt)
  have hb1 : Below w.heap.size w w1 := (Below.refl _ _).grown hgr (Nat.le_refl _) (fun k hk => by cases hk)
  obtain ⟨w2, hw2⟩ : ∃ w2, w2 = (w1.setCell ⟨w.heap.size, i0, none⟩ (.bool true)).alloc (.cells #[I i0] TN) := ⟨_, rfl⟩
  have HS0 : Hid (RS w w2 N w.heap.size w1.heap.size 1 1 [i0]) := by
    show RS _ _ _ _ _ _ _ _
    have hs4 : (w1.setCell ⟨w.heap.size, i0, none⟩ (.bool true)).heap.size = w1.heap.size := by simp [World.setCell]
    have hq := OwI.one_ (e := TN) (B := w.heap.size) (w1.setCell ⟨w.heap.size, i0, none⟩ (.bool true)) i0 (by rw [hs4]; exact hb1.size)
    rw [hs4] at hq
    have ho := (hB.set hi0).grown (World.grownBy_alloc _ (.cells #[I i0] TN) none) (by simp)
    rw [hw2]
    exact ⟨(hb1.setCell (p := ⟨w.heap.size, i0, none⟩) (Nat.le_refl _) _).alloc (by rw [hs4]; exact hb1.size) _, hq, rfl, ho.congr fun y _ => by simp, by omega, Nat.le_refl _⟩
  have HR0 : Hid (Rch E ms l r i0 [i0] 0 0) := Rch.start HM.out (by rw [Hn.out]; exact hi0)
  clear hown hgr hB e0 z0 hb1 hi hz0 hz1 hz2
  rw [← hw2]
  obtain ⟨h1s, hh1⟩ : ∃ h1s, h1s = w1.heap.size := ⟨_, rfl⟩
  rw [← hh1] at HS0 ⊢
  clear hw2 hh1 l0
  go_loopw [13, 12] (fun t v wr => ∃ (a : Nat) (L : List Nat) (gq kq cq : Nat), t = .int .i64 a ∧ v = .slice (some ⟨gq, 0, none⟩) kq cq ∧ a ≤ kq ∧ RS w wr N w.heap.size gq kq cq L ∧ Rch E ms l r i0 L a 0) (fun t _ _ => N + 1 - (intOf t).toNat)
  case atStart => exact ⟨0, [i0], h1s, 1, 1, rfl, rfl, by omega, HS0.out, HR0.out⟩
  case round =>
    clear HS0 HR0
    obtain ⟨a, L, gq, kq, cq, rfl, rfl, ha, hS, hR⟩ := hrel
    have hkq := hS.kq
    have hlen := hR.len
    rw [Hn.out] at hlen
    by_cases hak : a < kq
    · have haz : (a : Int) < (kq : Int) := by omega
      obtain ⟨x, hxa⟩ : ∃ x, L[a]? = some x := ⟨_, List.getElem?_eq_getElem (by omega)⟩
      have hxE := (hR.ok x (List.mem_of_getElem? hxa)).1
      rw [Hn.out] at hxE
      have hxz : (x : Int) < (N : Int) := by omega
      obtain ⟨e0, _, _, _, _⟩ := OwI.spotAt hS.q (k := a) (by rw [qI_len]; omega)
      rw [qI_get hxa] at e0
      obtain ⟨f, hf⟩ : ∃ f, f = gm E x := ⟨_, rfl⟩
      have hfE : f ∈ E := by rw [hf]; exact gm_mem (by rw [Hn.out]; exact hxE)
      have hfv := (HM.out.ok f hfE).1
      have H6 := (RdM.six (Rd.more (Rd.below Hx.out hS.bel) hS.bel.size) (k := x) (by rw [Hn.out]; exact hxE)).1
      rw [← hf] at H6
      obtain ⟨x0, x1, x2, x3, x4, x5⟩ := H6
      obtain ⟨wb, hwb⟩ : ∃ wb, wb = wr.alloc (.cells (mc f) 31) := ⟨_, rfl⟩
      obtain ⟨hb, hhb⟩ : ∃ hb, hb = wr.heap.size := ⟨_, rfl⟩
      have hbr : Below wr.heap.size wr wb := by rw [hwb]; exact (Below.refl _ _).alloc (Nat.le_refl _) _
      have hml := hS.m.lt
      have hql := (hS.q.lt gq rfl).2
      have HS : Hid (RS w wb N w.heap.size gq kq cq L) := hS.below hbr
      have HB : Hid (Blk wb hb 31 (mc f)) := by show Blk _ _ _ _; rw [hwb, hhb]; exact Blk.new _ _ _
      have hbM : hb ≠ w.heap.size := by omega
      have hbq : hb ≠ gq := by omega
      have HR := Lib.hid hR
      have Hxa := Lib.hid hxa
      have Hf := Lib.hid hf
      have HfE := Lib.hid hfE
      have Hwb := Lib.hid hwb
      have Hhb := Lib.hid hhb
      have haN : a < N := by omega
      clear hS hR hxa hf hfE hwb hhb hbr hml hql hlen
      go_wp2_with fail
      rw [← Hwb.out, ← Hhb.out]
      clear x0 x1 x2 x3 x4 x5 e0 Hwb Hhb
      go_loopw [15, 12] (fun t v wr => ∃ (q : Nat) (L : List Nat) (gq kq cq : Nat), t = .int .i64 q ∧ v = .slice (some ⟨gq, 0, none⟩) kq cq ∧ q ≤ k ∧ a < kq ∧ RS w wr N w.heap.size gq kq cq L ∧ Rch E ms l r i0 L a q ∧ L[a]? = some x ∧ Blk wr hb 31 (mc f) ∧ hb ≠ gq) (fun t _ _ => k - (intOf t).toNat)
      case atStart => exact ⟨0, L, gq, kq, cq, rfl, rfl, by omega, hak, HS.out, HR.out, Hxa.out, HB.out, hbq⟩
      case round =>
        clear HS HR Hxa HB hbq hkq ha haz
        clear hak
        obtain ⟨q, L, gq, kq, cq, rfl, rfl, hqk, hak, hS, hR, hxa, hB, hbq⟩ := hrel
        have HS := Lib.hid hS
        have HR := Lib.hid hR
        have Hxa := Lib.hid hxa
        have HB := Lib.hid hB
        clear hS hR hxa hB
        by_cases hqk2 : q < k
        · have hqz : (q : Int) < (k : Int) := by omega
          obtain ⟨b2, off2, rfl, hbb2, _⟩ := RdM.at_ Hy.out (k := q) (by rw [Hk.out]; exact hqk2)
          obtain ⟨g, hg⟩ : ∃ g, g = gm ms q := ⟨_, rfl⟩
          have hgE : g ∈ E := by rw [hg]; exact HGE.out q (by rw [Hk.out]; exact hqk2)
          have hgv := (HM.out.ok g hgE).1
          have Hg := Lib.hid hg
          have HgE := Lib.hid hgE
          clear hg hgE
          cases l
          · cases r
            · go_wp2_with fail
              go_roundw
              case rel => exact ⟨q + 1, L, gq, kq, cq, by go_num, rfl, by omega, by omega, HS.out, HR.out.next Hxa.out (fun e => by cases e) (fun e => by cases e), Hxa.out, HB.out, hbq⟩
              case measure => simp [intOf]; omega
            · obtain ⟨zr, hzr⟩ : ∃ z, z = mul f g := ⟨_, rfl⟩
              obtain ⟨kr, hkr⟩ : ∃ y, y = ix E zr := ⟨_, rfl⟩
              have hor := HR.out.right HM.out HGE.out (by rw [Hn.out]; exact hi0) Hxa.out (by rw [Hk.out]; exact hqk2) rfl
              rw [← Hf.out, ← Hg.out, ← hzr, ← hkr] at hor
              have hlr : kr < N := by rw [← Hn.out]; exact hor.1
              have hlrz : (kr : Int) < (N : Int) := by omega
              have hzmr : zr ∈ E := by rw [hzr]; exact HM.out.mulE _ HfE.out _ HgE.out
              have hzrv := (HM.out.ok zr hzmr).1
              have Hkr : Hid (plOf E zr - 1 = (kr : Int)) := by show _ = _; rw [plOf_in hzmr, ← hkr]; omega
              have Hzr : Hid (mul f g = zr) := hzr.symm
              have HKr : Hid (ix E (mul (gm E x) (gm ms q)) = kr) := by show _ = _; rw [← Hf.out, ← Hg.out, ← hzr, ← hkr]
              have halr : a < (L).length := by rw [HS.out.kq]; omega
              have HRr := Lib.hid (HR.out.add halr hor)
              have Hxar : Hid ((addQ L kr)[a]? = some x) := by show _ = _; rw [addQ_get halr]; exact Hxa.out
              have hmr : kr ∈ (addQ L kr) := addQ_mem _ _
              have hMr := Lib.hid hmr
              have HXr : Hid (∀ w', Below wr.heap.size wr w' → RdM w' w'.heap.size (some ⟨b, off, none⟩) E) := fun w' hb' => by have h2 := HS.out.bel.trans (hb'.mono HS.out.bel.size); exact Rd.more (Rd.below Hx.out h2) h2.size
              have HCr : Hid (∀ w', Below wr.heap.size wr w' → SixAt w' b2 (off2 + q * 6) g) := fun w' hb' => by have h2 := HS.out.bel.trans (hb'.mono HS.out.bel.size); rw [Hg.out]; exact (RdM.six (Rd.more (Rd.below Hy.out h2) h2.size) (k := q) (by rw [Hk.out]; exact hqk2)).1
              clear hor hzr hkr hzmr halr hmr
              go_wp2_with fail
              refine wp_region_same [] rfl (by kernel_rfl) (by kernel_rfl) (by kernel_rfl) (fun w' => Below wr.heap.size wr w') _
                [.slice (some ⟨b, off, none⟩) N c, .agg (mc f), .slice (some ⟨b2, off2, none⟩) k cg, I q, .pointer (some ⟨b2, off2 + q * 6, none⟩), .agg (mc g), .agg (mc zr), I kr, I kr]
                (by simp only [putAll, List.setIfInBounds_toArray, List.set_cons_succ, List.set_cons_zero]; rfl) (Below.refl _ _).drew ?hop ?hQ
              case hop =>
                refine FixBL.toL (fun w' w'' hS hb => hS.trans (hb.mono hS.size)) _ _ ?_
                refine ⟨.inr ?_, .inr ?_, .inr ?_, .inr ?_, .inr ?_, .inr ?_, .inr ?_, .inr ?_, .inr ?_, trivial⟩
                · (with_reducible refine FixB.of ?_ ?_; rfl; intro w' hS; have s0 := HCr.out _ hS; have s1 := (HB.out.below hS HB.out.lt).six; clear hS; unfold Oper.wp; go_simp; first | done | exact Below.refl _ _)
                · (with_reducible refine FixB.of ?_ ?_; rfl; intro w' hS; have s0 := HCr.out _ hS; have s1 := (HB.out.below hS HB.out.lt).six; clear hS; unfold Oper.wp; go_simp; first | done | exact Below.refl _ _)
                · (with_reducible refine FixB.of ?_ ?_; rfl; intro w' hS; have s0 := HCr.out _ hS; have s1 := (HB.out.below hS HB.out.lt).six; clear hS; unfold Oper.wp; go_simp; first | done | exact Below.refl _ _)
                · (with_reducible refine FixB.of ?_ ?_; rfl; intro w' hS; have s0 := HCr.out _ hS; have s1 := (HB.out.below hS HB.out.lt).six; clear hS; unfold Oper.wp; go_simp; first | done | exact Below.refl _ _)
                · (with_reducible refine FixB.of ?_ ?_; rfl; intro w' hS; have s0 := HCr.out _ hS; have s1 := (HB.out.below hS HB.out.lt).six; clear hS; unfold Oper.wp; go_simp; first | done | exact Below.refl _ _)
                · (with_reducible refine FixB.of ?_ ?_; rfl; intro w' hS; have s0 := HCr.out _ hS; have s1 := (HB.out.below hS HB.out.lt).six; clear hS; unfold Oper.wp; go_simp; first | done | exact Below.refl _ _)
                · (with_reducible refine FixB.of ?_ ?_; rfl; intro w' hS; have s3 := Lib.hid hS; unfold Oper.wp; clear hS; go_simp; refine ((Hzr.out ▸ l01Times_any f g _ hfv)).mono ?_; rintro e w1 ⟨rfl, hb⟩; exact ⟨rfl, hb⟩)
                · (with_reducible refine FixB.of ?_ ?_; rfl; intro w' hS; have s3 := Lib.hid hS; unfold Oper.wp; clear hS; go_simp; refine ((Hkr.out ▸ l03Index_any (some ⟨b, off, none⟩) N c E zr _ (HXr.out _ s3.out) Hn.out (by omega) HM.out.asc (fun g hg => (HM.out.ok g hg).1) hzrv)).mono ?_; rintro e w1 ⟨rfl, hb⟩; exact ⟨rfl, hb⟩)
                · (with_reducible refine FixB.of ?_ ?_; rfl; intro w' hS; have s0 := HCr.out _ hS; have s1 := (HB.out.below hS HB.out.lt).six; clear hS; unfold Oper.wp; go_simp; first | done | exact Below.refl _ _)
              case hQ =>
              intro wc hS _
              have Hwr := Lib.hid hS
              clear hS
              have HSr := Lib.hid (HS.out.below Hwr.out)
              have HBr := Lib.hid (HB.out.below Hwr.out HB.out.lt)
              obtain ⟨wr, hwr⟩ : ∃ y, y = wc := ⟨_, rfl⟩
              rw [← hwr] at HSr HBr ⊢
              have er := HSr.out.m.cell hlr
              clear Hwr HXr HCr hwr
              by_cases hinr : kr ∈ L
              · rw [decide_eq_true hinr] at er
                have HSr2 : Hid (RS w wr N w.heap.size gq kq cq (addQ L kr)) := by show RS _ _ _ _ _ _ _ _; rw [addQ_old hinr]; exact HSr.out
                go_wp2_with fail
                go_roundw
                case rel => exact ⟨q + 1, (addQ L kr), gq, kq, cq, by go_num, rfl, by omega, by omega, HSr2.out, HRr.out.next Hxar.out (fun e => by cases e) (fun _ => by rw [HKr.out]; exact hMr.out), Hxar.out, HBr.out, hbq⟩
                case measure => simp [intOf]; omega
              · rw [decide_eq_false hinr] at er
                have fr := HSr.out.m.frozen kr
                have lMr := HSr.out.m.lt
                have hlnr : kq ≤ 300 := by have h1 := HR.out.len; have h2 := HSr.out.kq; have h3 := Hn.out; omega
                go_wp2_with (at_builtin; refine wpList_pushN rfl (.tmp 83) (.tmp 85) rfl w.heap.size (.slice (some ⟨gq, 0, none⟩) kq cq) (qI L) rfl (HSr.out.q4 kr _) kq (by rw [qI_len]; exact HSr.out.kq) wr.heap.size 1 kr rfl ((Blk.new' _ _ _ (by simp [World.setCell])).cell 0) (by omega) (by have := HSr.out.bel.size; simp [World.setCell]; omega) (wr.heap.size + 1) (by simp [World.setCell]) ?_; intro gr' capr wr6 hor hgrr hgr hltr; have HSr2 := Lib.hid (HSr.out.push hlr hinr rfl rfl hor hgrr (hgr.imp id (fun e => by rw [e]; simp [World.setCell]))); have hbxr := HSr.out.box rfl rfl HBr.out hbM hbq hgrr (hgr.imp id (fun e => by rw [e]; simp [World.setCell])); have HBr6 := Lib.hid hbxr.1; have hbqr := hbxr.2; clear hor hgrr hgr hltr hbxr)
                go_wp2_with fail
                go_roundw
                case rel => exact ⟨q + 1, (addQ L kr), gr', (kq + 1), capr, by go_num, rfl, by omega, by omega, HSr2.out, HRr.out.next Hxar.out (fun e => by cases e) (fun _ => by rw [HKr.out]; exact hMr.out), Hxar.out, HBr6.out, hbqr⟩
                case measure => simp [intOf]; omega
          · cases r
            · obtain ⟨zl, hzl⟩ : ∃ z, z = mul g f := ⟨_, rfl⟩
              obtain ⟨kl, hkl⟩ : ∃ y, y = ix E zl := ⟨_, rfl⟩
              have hol := HR.out.left HM.out HGE.out (by rw [Hn.out]; exact hi0) Hxa.out (by rw [Hk.out]; exact hqk2) rfl
              rw [← Hf.out, ← Hg.out, ← hzl, ← hkl] at hol
              have hll : kl < N := by rw [← Hn.out]; exact hol.1
              have hllz : (kl : Int) < (N : Int) := by omega
              have hzml : zl ∈ E := by rw [hzl]; exact HM.out.mulE _ HgE.out _ HfE.out
              have hzlv := (HM.out.ok zl hzml).1
              have Hkl : Hid (plOf E zl - 1 = (kl : Int)) := by show _ = _; rw [plOf_in hzml, ← hkl]; omega
              have Hzl : Hid (mul g f = zl) := hzl.symm
              have HKl : Hid (ix E (mul (gm ms q) (gm E x)) = kl) := by show _ = _; rw [← Hf.out, ← Hg.out, ← hzl, ← hkl]
              have hall : a < (L).length := by rw [HS.out.kq]; omega
              have HRl := Lib.hid (HR.out.add hall hol)
              have Hxal : Hid ((addQ L kl)[a]? = some x) := by show _ = _; rw [addQ_get hall]; exact Hxa.out
              have hml : kl ∈ (addQ L kl) := addQ_mem _ _
              have hMl := Lib.hid hml
              have HXl : Hid (∀ w', Below wr.heap.size wr w' → RdM w' w'.heap.size (some ⟨b, off, none⟩) E) := fun w' hb' => by have h2 := HS.out.bel.trans (hb'.mono HS.out.bel.size); exact Rd.more (Rd.below Hx.out h2) h2.size
              have HCl : Hid (∀ w', Below wr.heap.size wr w' → SixAt w' b2 (off2 + q * 6) g) := fun w' hb' => by have h2 := HS.out.bel.trans (hb'.mono HS.out.bel.size); rw [Hg.out]; exact (RdM.six (Rd.more (Rd.below Hy.out h2) h2.size) (k := q) (by rw [Hk.out]; exact hqk2)).1
              clear hol hzl hkl hzml hall hml
              go_wp2_with fail
              refine wp_region_same [] rfl (by kernel_rfl) (by kernel_rfl) (by kernel_rfl) (fun w' => Below wr.heap.size wr w') _
                [.slice (some ⟨b, off, none⟩) N c, .slice (some ⟨b2, off2, none⟩) k cg, I q, .pointer (some ⟨b2, off2 + q * 6, none⟩), .agg (mc g), .agg (mc f), .agg (mc zl), I kl, I kl]
                (by simp only [putAll, List.setIfInBounds_toArray, List.set_cons_succ, List.set_cons_zero]; rfl) (Below.refl _ _).drew ?hop ?hQ
              case hop =>
                refine FixBL.toL (fun w' w'' hS hb => hS.trans (hb.mono hS.size)) _ _ ?_
                refine ⟨.inr ?_, .inr ?_, .inr ?_, .inr ?_, .inr ?_, .inr ?_, .inr ?_, .inr ?_, .inr ?_, trivial⟩
                · (with_reducible refine FixB.of ?_ ?_; rfl; intro w' hS; have s0 := HCl.out _ hS; have s1 := (HB.out.below hS HB.out.lt).six; clear hS; unfold Oper.wp; go_simp; first | done | exact Below.refl _ _)
                · (with_reducible refine FixB.of ?_ ?_; rfl; intro w' hS; have s0 := HCl.out _ hS; have s1 := (HB.out.below hS HB.out.lt).six; clear hS; unfold Oper.wp; go_simp; first | done | exact Below.refl _ _)
                · (with_reducible refine FixB.of ?_ ?_; rfl; intro w' hS; have s0 := HCl.out _ hS; have s1 := (HB.out.below hS HB.out.lt).six; clear hS; unfold Oper.wp; go_simp; first | done | exact Below.refl _ _)
                · (with_reducible refine FixB.of ?_ ?_; rfl; intro w' hS; have s0 := HCl.out _ hS; have s1 := (HB.out.below hS HB.out.lt).six; clear hS; unfold Oper.wp; go_simp; first | done | exact Below.refl _ _)
                · (with_reducible refine FixB.of ?_ ?_; rfl; intro w' hS; have s0 := HCl.out _ hS; have s1 := (HB.out.below hS HB.out.lt).six; clear hS; unfold Oper.wp; go_simp; first | done | exact Below.refl _ _)
                · (with_reducible refine FixB.of ?_ ?_; rfl; intro w' hS; have s0 := HCl.out _ hS; have s1 := (HB.out.below hS HB.out.lt).six; clear hS; unfold Oper.wp; go_simp; first | done | exact Below.refl _ _)
                · (with_reducible refine FixB.of ?_ ?_; rfl; intro w' hS; have s3 := Lib.hid hS; unfold Oper.wp; clear hS; go_simp; refine ((Hzl.out ▸ l01Times_any g f _ hgv)).mono ?_; rintro e w1 ⟨rfl, hb⟩; exact ⟨rfl, hb⟩)
                · (with_reducible refine FixB.of ?_ ?_; rfl; intro w' hS; have s3 := Lib.hid hS; unfold Oper.wp; clear hS; go_simp; refine ((Hkl.out ▸ l03Index_any (some ⟨b, off, none⟩) N c E zl _ (HXl.out _ s3.out) Hn.out (by omega) HM.out.asc (fun g hg => (HM.out.ok g hg).1) hzlv)).mono ?_; rintro e w1 ⟨rfl, hb⟩; exact ⟨rfl, hb⟩)
                · (with_reducible refine FixB.of ?_ ?_; rfl; intro w' hS; have s0 := HCl.out _ hS; have s1 := (HB.out.below hS HB.out.lt).six; clear hS; unfold Oper.wp; go_simp; first | done | exact Below.refl _ _)
              case hQ =>
              intro wc hS _
              have Hwl := Lib.hid hS
              clear hS
              have HSl := Lib.hid (HS.out.below Hwl.out)
              have HBl := Lib.hid (HB.out.below Hwl.out HB.out.lt)
              obtain ⟨wl, hwl⟩ : ∃ y, y = wc := ⟨_, rfl⟩
              rw [← hwl] at HSl HBl ⊢
              have el := HSl.out.m.cell hll
              clear Hwl HXl HCl hwl
              by_cases hinl : kl ∈ L
              · rw [decide_eq_true hinl] at el
                have HSl2 : Hid (RS w wl N w.heap.size gq kq cq (addQ L kl)) := by show RS _ _ _ _ _ _ _ _; rw [addQ_old hinl]; exact HSl.out
                go_wp2_with fail
                go_roundw
                case rel => exact ⟨q + 1, (addQ L kl), gq, kq, cq, by go_num, rfl, by omega, by omega, HSl2.out, HRl.out.next Hxal.out (fun _ => by rw [HKl.out]; exact hMl.out) (fun e => by cases e), Hxal.out, HBl.out, hbq⟩
                case measure => simp [intOf]; omega
              · rw [decide_eq_false hinl] at el
                have fl := HSl.out.m.frozen kl
                have lMl := HSl.out.m.lt
                have hlnl : kq ≤ 300 := by have h1 := HR.out.len; have h2 := HSl.out.kq; have h3 := Hn.out; omega
                go_wp2_with (at_builtin; refine wpList_pushN rfl (.tmp 62) (.tmp 64) rfl w.heap.size (.slice (some ⟨gq, 0, none⟩) kq cq) (qI L) rfl (HSl.out.q4 kl _) kq (by rw [qI_len]; exact HSl.out.kq) wl.heap.size 1 kl rfl ((Blk.new' _ _ _ (by simp [World.setCell])).cell 0) (by omega) (by have := HSl.out.bel.size; simp [World.setCell]; omega) (wl.heap.size + 1) (by simp [World.setCell]) ?_; intro gl' capl wl6 hol hgrl hgl hltl; have HSl2 := Lib.hid (HSl.out.push hll hinl rfl rfl hol hgrl (hgl.imp id (fun e => by rw [e]; simp [World.setCell]))); have hbxl := HSl.out.box rfl rfl HBl.out hbM hbq hgrl (hgl.imp id (fun e => by rw [e]; simp [World.setCell])); have HBl6 := Lib.hid hbxl.1; have hbql := hbxl.2; clear hol hgrl hgl hltl hbxl)
                go_wp2_with fail
                go_roundw
                case rel => exact ⟨q + 1, (addQ L kl), gl', (kq + 1), capl, by go_num, rfl, by omega, by omega, HSl2.out, HRl.out.next Hxal.out (fun _ => by rw [HKl.out]; exact hMl.out) (fun e => by cases e), Hxal.out, HBl6.out, hbql⟩
                case measure => simp [intOf]; omega
            · obtain ⟨zl, hzl⟩ : ∃ z, z = mul g f := ⟨_, rfl⟩
              obtain ⟨kl, hkl⟩ : ∃ y, y = ix E zl := ⟨_, rfl⟩
              have hol := HR.out.left HM.out HGE.out (by rw [Hn.out]; exact hi0) Hxa.out (by rw [Hk.out]; exact hqk2) rfl
              rw [← Hf.out, ← Hg.out, ← hzl, ← hkl] at hol
              have hll : kl < N := by rw [← Hn.out]; exact hol.1
              have hllz : (kl : Int) < (N : Int) := by omega
              have hzml : zl ∈ E := by rw [hzl]; exact HM.out.mulE _ HgE.out _ HfE.out
              have hzlv := (HM.out.ok zl hzml).1
              have Hkl : Hid (plOf E zl - 1 = (kl : Int)) := by show _ = _; rw [plOf_in hzml, ← hkl]; omega
              have Hzl : Hid (mul g f = zl) := hzl.symm
              have HKl : Hid (ix E (mul (gm ms q) (gm E x)) = kl) := by show _ = _; rw [← Hf.out, ← Hg.out, ← hzl, ← hkl]
              have hall : a < (L).length := by rw [HS.out.kq]; omega
              have HRl := Lib.hid (HR.out.add hall hol)
              have Hxal : Hid ((addQ L kl)[a]? = some x) := by show _ = _; rw [addQ_get hall]; exact Hxa.out
              have hml : kl ∈ (addQ L kl) := addQ_mem _ _
              have hMl := Lib.hid hml
              have HXl : Hid (∀ w', Below wr.heap.size wr w' → RdM w' w'.heap.size (some ⟨b, off, none⟩) E) := fun w' hb' => by have h2 := HS.out.bel.trans (hb'.mono HS.out.bel.size); exact Rd.more (Rd.below Hx.out h2) h2.size
              have HCl : Hid (∀ w', Below wr.heap.size wr w' → SixAt w' b2 (off2 + q * 6) g) := fun w' hb' => by have h2 := HS.out.bel.trans (hb'.mono HS.out.bel.size); rw [Hg.out]; exact (RdM.six (Rd.more (Rd.below Hy.out h2) h2.size) (k := q) (by rw [Hk.out]; exact hqk2)).1
              clear hol hzl hkl hzml hall hml
              go_wp2_with fail
              refine wp_region_same [] rfl (by kernel_rfl) (by kernel_rfl) (by kernel_rfl) (fun w' => Below wr.heap.size wr w') _
                [.slice (some ⟨b, off, none⟩) N c, .slice (some ⟨b2, off2, none⟩) k cg, I q, .pointer (some ⟨b2, off2 + q * 6, none⟩), .agg (mc g), .agg (mc f), .agg (mc zl), I kl, I kl]
                (by simp only [putAll, List.setIfInBounds_toArray, List.set_cons_succ, List.set_cons_zero]; rfl) (Below.refl _ _).drew ?hop ?hQ
              case hop =>
                refine FixBL.toL (fun w' w'' hS hb => hS.trans (hb.mono hS.size)) _ _ ?_
                refine ⟨.inr ?_, .inr ?_, .inr ?_, .inr ?_, .inr ?_, .inr ?_, .inr ?_, .inr ?_, .inr ?_, trivial⟩
                · (with_reducible refine FixB.of ?_ ?_; rfl; intro w' hS; have s0 := HCl.out _ hS; have s1 := (HB.out.below hS HB.out.lt).six; clear hS; unfold Oper.wp; go_simp; first | done | exact Below.refl _ _)
                · (with_reducible refine FixB.of ?_ ?_; rfl; intro w' hS; have s0 := HCl.out _ hS; have s1 := (HB.out.below hS HB.out.lt).six; clear hS; unfold Oper.wp; go_simp; first | done | exact Below.refl _ _)
                · (with_reducible refine FixB.of ?_ ?_; rfl; intro w' hS; have s0 := HCl.out _ hS; have s1 := (HB.out.below hS HB.out.lt).six; clear hS; unfold Oper.wp; go_simp; first | done | exact Below.refl _ _)
                · (with_reducible refine FixB.of ?_ ?_; rfl; intro w' hS; have s0 := HCl.out _ hS; have s1 := (HB.out.below hS HB.out.lt).six; clear hS; unfold Oper.wp; go_simp; first | done | exact Below.refl _ _)
                · (with_reducible refine FixB.of ?_ ?_; rfl; intro w' hS; have s0 := HCl.out _ hS; have s1 := (HB.out.below hS HB.out.lt).six; clear hS; unfold Oper.wp; go_simp; first | done | exact Below.refl _ _)
                · (with_reducible refine FixB.of ?_ ?_; rfl; intro w' hS; have s0 := HCl.out _ hS; have s1 := (HB.out.below hS HB.out.lt).six; clear hS; unfold Oper.wp; go_simp; first | done | exact Below.refl _ _)
                · (with_reducible refine FixB.of ?_ ?_; rfl; intro w' hS; have s3 := Lib.hid hS; unfold Oper.wp; clear hS; go_simp; refine ((Hzl.out ▸ l01Times_any g f _ hgv)).mono ?_; rintro e w1 ⟨rfl, hb⟩; exact ⟨rfl, hb⟩)
                · (with_reducible refine FixB.of ?_ ?_; rfl; intro w' hS; have s3 := Lib.hid hS; unfold Oper.wp; clear hS; go_simp; refine ((Hkl.out ▸ l03Index_any (some ⟨b, off, none⟩) N c E zl _ (HXl.out _ s3.out) Hn.out (by omega) HM.out.asc (fun g hg => (HM.out.ok g hg).1) hzlv)).mono ?_; rintro e w1 ⟨rfl, hb⟩; exact ⟨rfl, hb⟩)
                · (with_reducible refine FixB.of ?_ ?_; rfl; intro w' hS; have s0 := HCl.out _ hS; have s1 := (HB.out.below hS HB.out.lt).six; clear hS; unfold Oper.wp; go_simp; first | done | exact Below.refl _ _)
              case hQ =>
              intro wc hS _
              have Hwl := Lib.hid hS
              clear hS
              have HSl := Lib.hid (HS.out.below Hwl.out)
              have HBl := Lib.hid (HB.out.below Hwl.out HB.out.lt)
              obtain ⟨wl, hwl⟩ : ∃ y, y = wc := ⟨_, rfl⟩
              rw [← hwl] at HSl HBl ⊢
              have el := HSl.out.m.cell hll
              clear Hwl HXl HCl hwl
              by_cases hinl : kl ∈ L
              · rw [decide_eq_true hinl] at el
                have HSl2 : Hid (RS w wl N w.heap.size gq kq cq (addQ L kl)) := by show RS _ _ _ _ _ _ _ _; rw [addQ_old hinl]; exact HSl.out
                obtain ⟨zr, hzr⟩ : ∃ z, z = mul f g := ⟨_, rfl⟩
                obtain ⟨kr, hkr⟩ : ∃ y, y = ix E zr := ⟨_, rfl⟩
                have hor := HRl.out.right HM.out HGE.out (by rw [Hn.out]; exact hi0) Hxal.out (by rw [Hk.out]; exact hqk2) rfl
                rw [← Hf.out, ← Hg.out, ← hzr, ← hkr] at hor
                have hlr : kr < N := by rw [← Hn.out]; exact hor.1
                have hlrz : (kr : Int) < (N : Int) := by omega
                have hzmr : zr ∈ E := by rw [hzr]; exact HM.out.mulE _ HfE.out _ HgE.out
                have hzrv := (HM.out.ok zr hzmr).1
                have Hkr : Hid (plOf E zr - 1 = (kr : Int)) := by show _ = _; rw [plOf_in hzmr, ← hkr]; omega
                have Hzr : Hid (mul f g = zr) := hzr.symm
                have HKr : Hid (ix E (mul (gm E x) (gm ms q)) = kr) := by show _ = _; rw [← Hf.out, ← Hg.out, ← hzr, ← hkr]
                have halr : a < ((addQ L kl)).length := by rw [HSl2.out.kq]; omega
                have HRr := Lib.hid (HRl.out.add halr hor)
                have Hxar : Hid ((addQ (addQ L kl) kr)[a]? = some x) := by show _ = _; rw [addQ_get halr]; exact Hxal.out
                have hmr : kr ∈ (addQ (addQ L kl) kr) := addQ_mem _ _
                have hMr := Lib.hid hmr
                have HXr : Hid (∀ w', Below wl.heap.size wl w' → RdM w' w'.heap.size (some ⟨b, off, none⟩) E) := fun w' hb' => by have h2 := HSl2.out.bel.trans (hb'.mono HSl2.out.bel.size); exact Rd.more (Rd.below Hx.out h2) h2.size
                have HCr : Hid (∀ w', Below wl.heap.size wl w' → SixAt w' b2 (off2 + q * 6) g) := fun w' hb' => by have h2 := HSl2.out.bel.trans (hb'.mono HSl2.out.bel.size); rw [Hg.out]; exact (RdM.six (Rd.more (Rd.below Hy.out h2) h2.size) (k := q) (by rw [Hk.out]; exact hqk2)).1
                clear hor hzr hkr hzmr halr hmr
                go_wp2_with fail
                refine wp_region_same [] rfl (by kernel_rfl) (by kernel_rfl) (by kernel_rfl) (fun w' => Below wl.heap.size wl w') _
                  [.slice (some ⟨b, off, none⟩) N c, .agg (mc f), .slice (some ⟨b2, off2, none⟩) k cg, I q, .pointer (some ⟨b2, off2 + q * 6, none⟩), .agg (mc g), .agg (mc zr), I kr, I kr]
                  (by simp only [putAll, List.setIfInBounds_toArray, List.set_cons_succ, List.set_cons_zero]; rfl) (Below.refl _ _).drew ?hop ?hQ
                case hop =>
                  refine FixBL.toL (fun w' w'' hS hb => hS.trans (hb.mono hS.size)) _ _ ?_
                  refine ⟨.inr ?_, .inr ?_, .inr ?_, .inr ?_, .inr ?_, .inr ?_, .inr ?_, .inr ?_, .inr ?_, trivial⟩
                  · (with_reducible refine FixB.of ?_ ?_; rfl; intro w' hS; have s0 := HCr.out _ hS; have s1 := (HBl.out.below hS HBl.out.lt).six; clear hS; unfold Oper.wp; go_simp; first | done | exact Below.refl _ _)
                  · (with_reducible refine FixB.of ?_ ?_; rfl; intro w' hS; have s0 := HCr.out _ hS; have s1 := (HBl.out.below hS HBl.out.lt).six; clear hS; unfold Oper.wp; go_simp; first | done | exact Below.refl _ _)
                  · (with_reducible refine FixB.of ?_ ?_; rfl; intro w' hS; have s0 := HCr.out _ hS; have s1 := (HBl.out.below hS HBl.out.lt).six; clear hS; unfold Oper.wp; go_simp; first | done | exact Below.refl _ _)
                  · (with_reducible refine FixB.of ?_ ?_; rfl; intro w' hS; have s0 := HCr.out _ hS; have s1 := (HBl.out.below hS HBl.out.lt).six; clear hS; unfold Oper.wp; go_simp; first | done | exact Below.refl _ _)
                  · (with_reducible refine FixB.of ?_ ?_; rfl; intro w' hS; have s0 := HCr.out _ hS; have s1 := (HBl.out.below hS HBl.out.lt).six; clear hS; unfold Oper.wp; go_simp; first | done | exact Below.refl _ _)
                  · (with_reducible refine FixB.of ?_ ?_; rfl; intro w' hS; have s0 := HCr.out _ hS; have s1 := (HBl.out.below hS HBl.out.lt).six; clear hS; unfold Oper.wp; go_simp; first | done | exact Below.refl _ _)
                  · (with_reducible refine FixB.of ?_ ?_; rfl; intro w' hS; have s3 := Lib.hid hS; unfold Oper.wp; clear hS; go_simp; refine ((Hzr.out ▸ l01Times_any f g _ hfv)).mono ?_; rintro e w1 ⟨rfl, hb⟩; exact ⟨rfl, hb⟩)
                  · (with_reducible refine FixB.of ?_ ?_; rfl; intro w' hS; have s3 := Lib.hid hS; unfold Oper.wp; clear hS; go_simp; refine ((Hkr.out ▸ l03Index_any (some ⟨b, off, none⟩) N c E zr _ (HXr.out _ s3.out) Hn.out (by omega) HM.out.asc (fun g hg => (HM.out.ok g hg).1) hzrv)).mono ?_; rintro e w1 ⟨rfl, hb⟩; exact ⟨rfl, hb⟩)
                  · (with_reducible refine FixB.of ?_ ?_; rfl; intro w' hS; have s0 := HCr.out _ hS; have s1 := (HBl.out.below hS HBl.out.lt).six; clear hS; unfold Oper.wp; go_simp; first | done | exact Below.refl _ _)
                case hQ =>
                intro wc hS _
                have Hwr := Lib.hid hS
                clear hS
                have HSr := Lib.hid (HSl2.out.below Hwr.out)
                have HBr := Lib.hid (HBl.out.below Hwr.out HBl.out.lt)
                obtain ⟨wr, hwr⟩ : ∃ y, y = wc := ⟨_, rfl⟩
                rw [← hwr] at HSr HBr ⊢
                have er := HSr.out.m.cell hlr
                clear Hwr HXr HCr hwr
                by_cases hinr : kr ∈ (addQ L kl)
                · rw [decide_eq_true hinr] at er
                  have HSr2 : Hid (RS w wr N w.heap.size gq kq cq (addQ (addQ L kl) kr)) := by show RS _ _ _ _ _ _ _ _; rw [addQ_old hinr]; exact HSr.out
                  go_wp2_with fail
                  go_roundw
                  case rel => exact ⟨q + 1, (addQ (addQ L kl) kr), gq, kq, cq, by go_num, rfl, by omega, by omega, HSr2.out, HRr.out.next Hxar.out (fun _ => by rw [HKl.out]; exact addQ_of hMl.out) (fun _ => by rw [HKr.out]; exact hMr.out), Hxar.out, HBr.out, hbq⟩
                  case measure => simp [intOf]; omega
                · rw [decide_eq_false hinr] at er
                  have fr := HSr.out.m.frozen kr
                  have lMr := HSr.out.m.lt
                  have hlnr : kq ≤ 300 := by have h1 := HRl.out.len; have h2 := HSr.out.kq; have h3 := Hn.out; omega
                  go_wp2_with (at_builtin; refine wpList_pushN rfl (.tmp 83) (.tmp 85) rfl w.heap.size (.slice (some ⟨gq, 0, none⟩) kq cq) (qI (addQ L kl)) rfl (HSr.out.q4 kr _) kq (by rw [qI_len]; exact HSr.out.kq) wr.heap.size 1 kr rfl ((Blk.new' _ _ _ (by simp [World.setCell])).cell 0) (by omega) (by have := HSr.out.bel.size; simp [World.setCell]; omega) (wr.heap.size + 1) (by simp [World.setCell]) ?_; intro gr' capr wr6 hor hgrr hgr hltr; have HSr2 := Lib.hid (HSr.out.push hlr hinr rfl rfl hor hgrr (hgr.imp id (fun e => by rw [e]; simp [World.setCell]))); have hbxr := HSr.out.box rfl rfl HBr.out hbM hbq hgrr (hgr.imp id (fun e => by rw [e]; simp [World.setCell])); have HBr6 := Lib.hid hbxr.1; have hbqr := hbxr.2; clear hor hgrr hgr hltr hbxr)
                  go_wp2_with fail
                  go_roundw
                  case rel => exact ⟨q + 1, (addQ (addQ L kl) kr), gr', (kq + 1), capr, by go_num, rfl, by omega, by omega, HSr2.out, HRr.out.next Hxar.out (fun _ => by rw [HKl.out]; exact addQ_of hMl.out) (fun _ => by rw [HKr.out]; exact hMr.out), Hxar.out, HBr6.out, hbqr⟩
                  case measure => simp [intOf]; omega
              · rw [decide_eq_false hinl] at el
                have fl := HSl.out.m.frozen kl
                have lMl := HSl.out.m.lt
                have hlnl : kq ≤ 300 := by have h1 := HR.out.len; have h2 := HSl.out.kq; have h3 := Hn.out; omega
                go_wp2_with (at_builtin; refine wpList_pushN rfl (.tmp 62) (.tmp 64) rfl w.heap.size (.slice (some ⟨gq, 0, none⟩) kq cq) (qI L) rfl (HSl.out.q4 kl _) kq (by rw [qI_len]; exact HSl.out.kq) wl.heap.size 1 kl rfl ((Blk.new' _ _ _ (by simp [World.setCell])).cell 0) (by omega) (by have := HSl.out.bel.size; simp [World.setCell]; omega) (wl.heap.size + 1) (by simp [World.setCell]) ?_; intro gl' capl wl6 hol hgrl hgl hltl; have HSl2 := Lib.hid (HSl.out.push hll hinl rfl rfl hol hgrl (hgl.imp id (fun e => by rw [e]; simp [World.setCell]))); have hbxl := HSl.out.box rfl rfl HBl.out hbM hbq hgrl (hgl.imp id (fun e => by rw [e]; simp [World.setCell])); have HBl6 := Lib.hid hbxl.1; have hbql := hbxl.2; clear hol hgrl hgl hltl hbxl)
                obtain ⟨zr, hzr⟩ : ∃ z, z = mul f g := ⟨_, rfl⟩
                obtain ⟨kr, hkr⟩ : ∃ y, y = ix E zr := ⟨_, rfl⟩
                have hor := HRl.out.right HM.out HGE.out (by rw [Hn.out]; exact hi0) Hxal.out (by rw [Hk.out]; exact hqk2) rfl
                rw [← Hf.out, ← Hg.out, ← hzr, ← hkr] at hor
                have hlr : kr < N := by rw [← Hn.out]; exact hor.1
                have hlrz : (kr : Int) < (N : Int) := by omega
                have hzmr : zr ∈ E := by rw [hzr]; exact HM.out.mulE _ HfE.out _ HgE.out
                have hzrv := (HM.out.ok zr hzmr).1
                have Hkr : Hid (plOf E zr - 1 = (kr : Int)) := by show _ = _; rw [plOf_in hzmr, ← hkr]; omega
                have Hzr : Hid (mul f g = zr) := hzr.symm
                have HKr : Hid (ix E (mul (gm E x) (gm ms q)) = kr) := by show _ = _; rw [← Hf.out, ← Hg.out, ← hzr, ← hkr]
                have halr : a < ((addQ L kl)).length := by rw [HSl2.out.kq]; omega
                have HRr := Lib.hid (HRl.out.add halr hor)
                have Hxar : Hid ((addQ (addQ L kl) kr)[a]? = some x) := by show _ = _; rw [addQ_get halr]; exact Hxal.out
                have hmr : kr ∈ (addQ (addQ L kl) kr) := addQ_mem _ _
                have hMr := Lib.hid hmr
                have HXr : Hid (∀ w', Below wl6.heap.size wl6 w' → RdM w' w'.heap.size (some ⟨b, off, none⟩) E) := fun w' hb' => by have h2 := HSl2.out.bel.trans (hb'.mono HSl2.out.bel.size); exact Rd.more (Rd.below Hx.out h2) h2.size
                have HCr : Hid (∀ w', Below wl6.heap.size wl6 w' → SixAt w' b2 (off2 + q * 6) g) := fun w' hb' => by have h2 := HSl2.out.bel.trans (hb'.mono HSl2.out.bel.size); rw [Hg.out]; exact (RdM.six (Rd.more (Rd.below Hy.out h2) h2.size) (k := q) (by rw [Hk.out]; exact hqk2)).1
                clear hor hzr hkr hzmr halr hmr
                go_wp2_with fail
                refine wp_region_same [] rfl (by kernel_rfl) (by kernel_rfl) (by kernel_rfl) (fun w' => Below wl6.heap.size wl6 w') _
                  [.slice (some ⟨b, off, none⟩) N c, .agg (mc f), .slice (some ⟨b2, off2, none⟩) k cg, I q, .pointer (some ⟨b2, off2 + q * 6, none⟩), .agg (mc g), .agg (mc zr), I kr, I kr]
                  (by simp only [putAll, List.setIfInBounds_toArray, List.set_cons_succ, List.set_cons_zero]; rfl) (Below.refl _ _).drew ?hop ?hQ
                case hop =>
                  refine FixBL.toL (fun w' w'' hS hb => hS.trans (hb.mono hS.size)) _ _ ?_
                  refine ⟨.inr ?_, .inr ?_, .inr ?_, .inr ?_, .inr ?_, .inr ?_, .inr ?_, .inr ?_, .inr ?_, trivial⟩
                  · (with_reducible refine FixB.of ?_ ?_; rfl; intro w' hS; have s0 := HCr.out _ hS; have s1 := (HBl6.out.below hS HBl6.out.lt).six; clear hS; unfold Oper.wp; go_simp; first | done | exact Below.refl _ _)
                  · (with_reducible refine FixB.of ?_ ?_; rfl; intro w' hS; have s0 := HCr.out _ hS; have s1 := (HBl6.out.below hS HBl6.out.lt).six; clear hS; unfold Oper.wp; go_simp; first | done | exact Below.refl _ _)
                  · (with_reducible refine FixB.of ?_ ?_; rfl; intro w' hS; have s0 := HCr.out _ hS; have s1 := (HBl6.out.below hS HBl6.out.lt).six; clear hS; unfold Oper.wp; go_simp; first | done | exact Below.refl _ _)
                  · (with_reducible refine FixB.of ?_ ?_; rfl; intro w' hS; have s0 := HCr.out _ hS; have s1 := (HBl6.out.below hS HBl6.out.lt).six; clear hS; unfold Oper.wp; go_simp; first | done | exact Below.refl _ _)
                  · (with_reducible refine FixB.of ?_ ?_; rfl; intro w' hS; have s0 := HCr.out _ hS; have s1 := (HBl6.out.below hS HBl6.out.lt).six; clear hS; unfold Oper.wp; go_simp; first | done | exact Below.refl _ _)
                  · (with_reducible refine FixB.of ?_ ?_; rfl; intro w' hS; have s0 := HCr.out _ hS; have s1 := (HBl6.out.below hS HBl6.out.lt).six; clear hS; unfold Oper.wp; go_simp; first | done | exact Below.refl _ _)
                  · (with_reducible refine FixB.of ?_ ?_; rfl; intro w' hS; have s3 := Lib.hid hS; unfold Oper.wp; clear hS; go_simp; refine ((Hzr.out ▸ l01Times_any f g _ hfv)).mono ?_; rintro e w1 ⟨rfl, hb⟩; exact ⟨rfl, hb⟩)
                  · (with_reducible refine FixB.of ?_ ?_; rfl; intro w' hS; have s3 := Lib.hid hS; unfold Oper.wp; clear hS; go_simp; refine ((Hkr.out ▸ l03Index_any (some ⟨b, off, none⟩) N c E zr _ (HXr.out _ s3.out) Hn.out (by omega) HM.out.asc (fun g hg => (HM.out.ok g hg).1) hzrv)).mono ?_; rintro e w1 ⟨rfl, hb⟩; exact ⟨rfl, hb⟩)
                  · (with_reducible refine FixB.of ?_ ?_; rfl; intro w' hS; have s0 := HCr.out _ hS; have s1 := (HBl6.out.below hS HBl6.out.lt).six; clear hS; unfold Oper.wp; go_simp; first | done | exact Below.refl _ _)
                case hQ =>
                intro wc hS _
                have Hwr := Lib.hid hS
                clear hS
                have HSr := Lib.hid (HSl2.out.below Hwr.out)
                have HBr := Lib.hid (HBl6.out.below Hwr.out HBl6.out.lt)
                obtain ⟨wr, hwr⟩ : ∃ y, y = wc := ⟨_, rfl⟩
                rw [← hwr] at HSr HBr ⊢
                have er := HSr.out.m.cell hlr
                clear Hwr HXr HCr hwr
                by_cases hinr : kr ∈ (addQ L kl)
                · rw [decide_eq_true hinr] at er
                  have HSr2 : Hid (RS w wr N w.heap.size gl' (kq + 1) capl (addQ (addQ L kl) kr)) := by show RS _ _ _ _ _ _ _ _; rw [addQ_old hinr]; exact HSr.out
                  go_wp2_with fail
                  go_roundw
                  case rel => exact ⟨q + 1, (addQ (addQ L kl) kr), gl', (kq + 1), capl, by go_num, rfl, by omega, by omega, HSr2.out, HRr.out.next Hxar.out (fun _ => by rw [HKl.out]; exact addQ_of hMl.out) (fun _ => by rw [HKr.out]; exact hMr.out), Hxar.out, HBr.out, hbql⟩
                  case measure => simp [intOf]; omega
                · rw [decide_eq_false hinr] at er
                  have fr := HSr.out.m.frozen kr
                  have lMr := HSr.out.m.lt
                  have hlnr : (kq + 1) ≤ 300 := by have h1 := HRl.out.len; have h2 := HSr.out.kq; have h3 := Hn.out; omega
                  go_wp2_with (at_builtin; refine wpList_pushN rfl (.tmp 83) (.tmp 85) rfl w.heap.size (.slice (some ⟨gl', 0, none⟩) (kq + 1) capl) (qI (addQ L kl)) rfl (HSr.out.q4 kr _) (kq + 1) (by rw [qI_len]; exact HSr.out.kq) wr.heap.size 1 kr rfl ((Blk.new' _ _ _ (by simp [World.setCell])).cell 0) (by omega) (by have := HSr.out.bel.size; simp [World.setCell]; omega) (wr.heap.size + 1) (by simp [World.setCell]) ?_; intro gr' capr wr6 hor hgrr hgr hltr; have HSr2 := Lib.hid (HSr.out.push hlr hinr rfl rfl hor hgrr (hgr.imp id (fun e => by rw [e]; simp [World.setCell]))); have hbxr := HSr.out.box rfl rfl HBr.out hbM hbql hgrr (hgr.imp id (fun e => by rw [e]; simp [World.setCell])); have HBr6 := Lib.hid hbxr.1; have hbqr := hbxr.2; clear hor hgrr hgr hltr hbxr)
                  go_wp2_with fail
                  go_roundw
                  case rel => exact ⟨q + 1, (addQ (addQ L kl) kr), gr', ((kq + 1) + 1), capr, by go_num, rfl, by omega, by omega, HSr2.out, HRr.out.next Hxar.out (fun _ => by rw [HKl.out]; exact addQ_of hMl.out) (fun _ => by rw [HKr.out]; exact hMr.out), Hxar.out, HBr6.out, hbqr⟩
                  case measure => simp [intOf]; omega
        · obtain rfl : q = k := by omega
          have hqz : ¬ ((q : Int) < (q : Int)) := by omega
          have HR2 : Hid (Rch E ms l r i0 L (a + 1) 0) := Rch.row (by have := HR.out; rwa [← Hk.out] at this)
          go_wp2_with fail
          go_roundw
          case rel => exact ⟨a + 1, L, gq, kq, cq, by go_num, rfl, by omega, HS.out, HR2.out⟩
          case measure => simp [intOf]; have h1 := HR.out.len; have h2 := HS.out.kq; have h3 := Hn.out; omega
    · obtain rfl : a = kq := by omega
      have haz : ¬ ((a : Int) < (a : Int)) := by omega
      have HB : Hid (Bls wr w.heap.size N fun y => decide (Rel E l r (gm E i0) (gm E y))) := hS.m.congr fun y hy => by
        subst hkq
        exact hR.fin HM.out HE.out HG.out (by rw [Hn.out]; exact hi0) (by rw [Hn.out]; exact hy)
      have Hb := Lib.hid hS.bel
      clear hS hR hkq
      go_wp2_with fail
      go_ret
      exact ⟨_, rfl, Nat.le_refl _, HB.out, Hb.out⟩
set_option maxRecDepth 100000
set_option linter.unusedSimpArgs false
set_option linter.unusedVariables false
def gR (ms xs : List M) : List M := if monC ms xs = 0 then elR ms xs else []
def gN (ms xs : List M) : List Int := if monC ms xs = 0 then xs.map fun f => (ix (elR ms xs) f : Int) else []
def RetG (ms xs : List M) (w : World) (e : Ending) (w' : World) : Prop := ∃ A c v, e = .returned (.tuple #[.slice A (gR ms xs).length c, v, I (monC ms xs)]) ∧ RdM w' w'.heap.size A (gR ms xs) ∧ OwI TN w' w.heap.size v (gN ms xs) ∧ Below w.heap.size w w'
set_option maxHeartbeats 1000000 in
theorem l03Given_any (A1 A2 : Option Addr) (n1 c1 n2 c2 : Nat) (ms xs : List M) (w : World) (hx : RdM w w.heap.size A1 ms) (hy : RdM w w.heap.size A2 xs) (hn : ms.length = n1) (hm : xs.length = n2)
    (hb : n1 < 1073741824) (hb2 : n2 < 1073741824) :
    Calls Tryz.prog 150 #[.slice A1 n1 c1, .slice A2 n2 c2] w (RetG ms xs w) := by
  have Hx := Lib.hid hx
  have Hy := Lib.hid hy
  have Hn := Lib.hid hn
  have Hm := Lib.hid hm
  clear hx hy hn hm
  by_cases hc : elC ms xs = 0
  · obtain ⟨E, ps, hE⟩ := elC_el hc
    have hlen := hE.len
    have hpos := hE.pos
    have HE := Lib.hid hE
    have Hc := Lib.hid hc
    have H4 : Hid (∀ f ∈ xs, Valid f) := fun f hf => (hE.X f hf).1
    clear hE hc
    go_enter Tryz.func150, Tryz.ntmps150
    go_wp2_with fail
    refine (l02Elements_any A1 A2 n1 c1 n2 c2 ms xs _ Hx.out Hy.out Hn.out Hm.out hb hb2).mono ?_
    rintro e w1 ⟨A', c', rfl, hr, hb1⟩
    rw [HE.out.r] at hr ⊢
    rw [Hc.out]
    have Hr := Lib.hid hr
    have Hb1 := Lib.hid hb1
    have hz1 := hb1.size
    obtain ⟨N, hN⟩ : ∃ N, E.length = N := ⟨_, rfl⟩
    rw [hN] at hlen hpos ⊢
    have HN := Lib.hid hN
    clear hr hb1 hN
    go_wp2_with fail
    go_loopw [9, 10] (fun v i wr => ∃ q : Nat, i = .int .i64 q ∧ q ≤ n2 ∧ Below w1.heap.size w1 wr ∧ OwI TN wr w1.heap.size v ((xs.take q).map fun f => (ix E f : Int)) ∧ ∀ f ∈ xs.take q, f ∈ E) (fun _ i _ => n2 - (intOf i).toNat)
    case atStart => exact ⟨0, rfl, by omega, (Below.refl _ _).alloc (Nat.le_refl _) _, by simpa using OwI.made (Nat.le_refl _), by simp⟩
    case round =>
      obtain ⟨q, rfl, hq, hb', ho, hin⟩ := hrel
      have Hb := Lib.hid hb'
      have Hin := Lib.hid hin
      have hl : (List.map (fun f => (ix E f : Int)) (xs.take q)).length = q := by rw [List.length_map, List.length_take, Hm.out]; omega
      obtain ⟨A, cA, hv, _⟩ := ho.form
      rw [hl] at hv
      subst hv
      have Ho := Lib.hid ho
      have Hl := Lib.hid hl
      have hsz := hb'.size
      clear hb' ho hin hl
      by_cases hq2 : q < n2
      · have hqz : (q : Int) < (n2 : Int) := by omega
        have hbq := Hb1.out.trans (Hb.out.mono hz1)
        obtain ⟨b2, off2, rfl, hbb2, _⟩ := RdM.at_ Hy.out (k := q) (by rw [Hm.out]; exact hq2)
        have H6 := (RdM.six (Rd.more (Rd.below Hy.out hbq) hbq.size) (k := q) (by rw [Hm.out]; exact hq2)).1
        obtain ⟨f, hf⟩ : ∃ f, f = gm xs q := ⟨_, rfl⟩
        rw [← hf] at H6
        obtain ⟨x0, x1, x2, x3, x4, x5⟩ := H6
        have hfx : f ∈ xs := by rw [hf]; exact gm_mem (by rw [Hm.out]; exact hq2)
        have hvf := H4.out f hfx
        have Htk : Hid (xs.take (q + 1) = xs.take q ++ [f]) := by show _ = _; rw [List.take_add_one, hf, gm_eq (by rw [Hm.out]; exact hq2), List.getElem?_eq_getElem (by rw [Hm.out]; exact hq2)]; rfl
        have Hfx := Lib.hid hfx
        clear hf hfx hbq
        go_wp2_with fail
        refine (l03Index_any A' N c' E f wr (Rd.more (Rd.below Hr.out Hb.out) hsz) HN.out (by omega) HE.out.mnd.asc (fun g hg => (HE.out.mnd.ok g hg).1) hvf).mono ?_
        rintro e w3 ⟨rfl, hb3⟩
        have Hb3 := Lib.hid (Hb.out.trans (hb3.mono hsz))
        have Ho3 := Lib.hid (Ho.out.below hb3 (Nat.le_refl _))
        have hs3 := hb3.size
        clear hb3 x0 x1 x2 x3 x4 x5 Ho Hb
        by_cases hfE : f ∈ E
        · have hp : plOf E f - 1 = (ix E f : Int) := by rw [plOf_in hfE]; omega
          rw [hp]
          have hix := ix_lt hfE
          obtain ⟨x, hxx⟩ : ∃ x, x = ix E f := ⟨_, rfl⟩
          rw [← hxx] at hix ⊢
          have Hxx := Lib.hid hxx
          have hx300 : x < 300 := by have := HN.out; omega
          have Hin2 : Hid (∀ g ∈ xs.take (q + 1), g ∈ E) := fun g hg => by
            rw [Htk.out] at hg
            rcases List.mem_append.1 hg with h | h
            · exact Hin.out g h
            · rw [List.mem_singleton] at h; rw [h]; exact hfE
          have hxn : ¬ ((x : Int) < 0) := by omega
          clear hp hxx hfE hix
          go_wp2_with (at_builtin; refine wpList_pushN rfl (.tmp 36) (.tmp 38) rfl w1.heap.size (.slice A q cA) (List.map (fun f => (ix E f : Int)) (xs.take q)) rfl (Ho3.out.alloc _) q Hl.out w3.heap.size 1 x rfl ((Blk.new _ _ _).cell 0) (by omega) (by simp; omega) (w3.heap.size + 1) (by simp) ?_; intro g' cap w4 ho' hgr hg' hlt'; have Hb4 := Lib.hid (((Ho3.out.alloc (.cells #[I x] TN)).bel (Hb3.out.alloc (by omega) _) hgr (Nat.le_refl _) (by simp; omega))); have Ho4 := Lib.hid ho'; clear ho' hgr hg' hlt')
          go_roundw
          case rel => exact ⟨q + 1, by go_num, by omega, Hb4.out, by rw [Htk.out, List.map_append, List.map_singleton, ← Hxx.out]; exact Ho4.out, Hin2.out⟩
          case measure => simp [intOf]; omega
        · have hp : plOf E f - 1 = -1 := by rw [plOf_out hfE]; rfl
          rw [hp]
          have hmc : monC ms xs = 4 := monC_out HE.out.code HE.out.clo Hfx.out (by rw [← HE.out.eq]; exact hfE)
          have HR : Hid (gR ms xs = []) := by show _ = _; unfold gR; rw [if_neg (by rw [hmc]; decide)]
          have HG : Hid (gN ms xs = []) := by show _ = _; unfold gN; rw [if_neg (by rw [hmc]; decide)]
          have Hmc := Lib.hid hmc
          have Hbe := Lib.hid (Hb1.out.trans (Hb3.out.mono hz1))
          clear hp hmc
          go_wp2_with fail
          go_ret3
          exact ⟨none, 0, _, by rw [Hmc.out, HR.out] <;> rfl, by rw [HR.out]; exact Rd.nil_, by rw [HG.out]; exact OwI.nil_, Hbe.out⟩
      · obtain rfl : q = n2 := by omega
        have hqz : ¬ ((q : Int) < (q : Int)) := by omega
        have htk : xs.take q = xs := List.take_of_length_le (by rw [Hm.out]; exact Nat.le_refl _)
        have hmc : monC ms xs = 0 := monC_in HE.out.code HE.out.clo (by have := Hin.out; rw [htk, HE.out.eq] at this; exact this)
        have HR : Hid (gR ms xs = E) := by show _ = _; unfold gR; rw [if_pos hmc, HE.out.r]
        have HG : Hid (gN ms xs = List.map (fun f => (ix E f : Int)) (xs.take q)) := by show _ = _; unfold gN; rw [if_pos hmc, HE.out.r, htk]
        have Hmc := Lib.hid hmc
        have Hbe := Lib.hid (Hb1.out.trans (Hb.out.mono hz1))
        have Hre := Lib.hid (Rd.more (Rd.below Hr.out Hb.out) hsz)
        clear htk hmc
        go_wp2_with fail
        go_ret3
        exact ⟨A', c', _, by rw [Hmc.out, HR.out, HN.out] <;> rfl, by rw [HR.out]; exact Hre.out, by rw [HG.out]; exact Ho.out.mono hz1, Hbe.out⟩
  · have hmc := elC_mon hc
    have HR : Hid (gR ms xs = []) := by show _ = _; unfold gR; rw [if_neg (by rw [hmc]; exact hc)]
    have HG : Hid (gN ms xs = []) := by show _ = _; unfold gN; rw [if_neg (by rw [hmc]; exact hc)]
    have Hmc := Lib.hid hmc
    have hne : (elC ms xs != 0) = true := by simpa using hc
    clear hc hmc
    go_enter Tryz.func150, Tryz.ntmps150
    go_wp2_with fail
    refine (l02Elements_any A1 A2 n1 c1 n2 c2 ms xs _ Hx.out Hy.out Hn.out Hm.out hb hb2).mono ?_
    rintro e w1 ⟨A', c', rfl, hr, hb1⟩
    have Hb1 := Lib.hid hb1
    clear hr hb1
    go_wp2
    go_ret3
    exact ⟨none, 0, _, by rw [Hmc.out, HR.out] <;> rfl, by rw [HR.out]; exact Rd.nil_, by rw [HG.out]; exact OwI.nil_, Hb1.out⟩
end Go.Proofs.YtkbfocoaobiijaaGreat

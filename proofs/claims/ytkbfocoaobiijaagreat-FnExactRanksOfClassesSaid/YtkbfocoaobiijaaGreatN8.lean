/- The contract of monoidOf; the lists are as the theorem states. -/
import Derived.Test.YtkbfocoaobiijaaGreatN5
import Derived.Test.YtkbfocoaobiijaaGreatNB
import Derived.OwnWalk
namespace Go.Proofs.YtkbfocoaobiijaaGreat
open Go.RowKit
set_option maxRecDepth 100000

theorem MonAt.from {n : Int} {B B' g : Nat} {E : List M} {us : List (List Int)} {w : World} (h : MonAt n B g E us w) (hB : B' ≤ B) : MonAt n B' g E us w := by
  obtain ⟨ge, ev, wv, pl, vs, h1, h2, h3, h4, h5, h6, h7⟩ := h
  exact ⟨by omega, ev, wv, pl, vs, h1, h2, h3.mono hB, h4.mono hB, h5, h6, fun j hj => (h7 j hj).mono hB⟩
theorem infoN : (Tryz.prog.info? 3).map (fun i => (i.zero, i.size, i.bytes)) = some (some (.int .i64 0), 1, 8) := by kernel_rfl
theorem wpList_pushN {w : World} {ops : Array Oper} {rest : List Oper} {o : Oper} {a : Act} {Q : Exit → Act → World → Prop} (hgd : o.guard = none) (s x : Operand)
    (ho : o.op = .call { callee := .builtin .append, args := #[s, x], argTypes := #[108, 108] }) (B : Nat) (v : Value) (zs : List Int) (hs : a.eval s = v) (hown : OwI 3 w B v zs) (n : Nat) (hlen : zs.length = n)
    (g : Nat) (c : Nat) (z : Int) (hx : a.eval x = .slice (some ⟨g, 0, none⟩) 1 c) (hg : w.cell? ⟨g, 0, none⟩ = some (I z))
    (hn : n < 1073741824) (hB : B ≤ w.heap.size) (H : Nat) (hH : w.heap.size = H)
    (h : ∀ g' cap w', OwI 3 w' B (.slice (some ⟨g', 0, none⟩) (n + 1) cap) (zs ++ [z]) → w.grownBy w' v.ownBlock → (v.ownBlock = some g' ∨ g' = H) → g' < w'.heap.size →
      wpList Tryz.prog ops Q rest (a.put o.dst (.slice (some ⟨g', 0, none⟩) (n + 1) cap)) w') : wpList Tryz.prog ops Q (o :: rest) a w := by
  subst hlen
  obtain ⟨i, hi, hz0, hz1, hz2⟩ := info_parts infoN
  refine wpList_append_lies w hgd s x 108 ho B 3 i (.int .i64 0) 1 8 Tryz.underlying108 hi hz0 hz1 hz2 rfl (by decide) v zs.length (cI zs) hs hown ⟨g, 0, none⟩ 1 c [I z] hx rfl ?_ ?_ (by decide) (by unfold maxLen; omega) (by omega) hB H hH ?_
  · intro j u hj
    match j, hj with
    | 0, hj => simp at hj; subst hj; simpa [Addr.add] using hg
  · intro u hu; simp at hu; subst hu; rfl
  · intro g' cap w' h1 h2 h3 h4
    exact h g' cap w' (by unfold OwI; rw [cI_snoc]; simpa using h1) h2 h3 h4

theorem codeL_pts' {ms xs : List M} (h : codeL ms xs = 0) : 1 ≤ (gm ms 0).p ∧ (gm ms 0).p ≤ 5 ∧ Pts (gm ms 0).p ms ∧ Pts (gm ms 0).p xs ∧ 1 ≤ ms.length ∧ ms.length ≤ 6 := by
  obtain ⟨h1, h2, h3⟩ := codeL_zero.1 h
  have h4 := inR_true.1 h2
  rw [List.all_eq_true] at h1 h3
  have key : ∀ f, f ∈ ms ++ xs → Valid f ∧ f.p = (gm ms 0).p := fun f hf => ⟨(isMap_iff f).1 (h1 f hf), of_decide_eq_true (h3 f hf)⟩
  have h0 : gm ms 0 ∈ ms := by rw [gm_eq (by omega)]; exact List.getElem_mem _
  have hv := (key _ (List.mem_append_left _ h0)).1
  exact ⟨hv.p1, hv.p5, fun f hf => key f (List.mem_append_left _ hf), fun f hf => key f (List.mem_append_right _ hf), by omega, by omega⟩

abbrev eltM (ps : Met) : List M := sortM (ps.map (·.1))
def monC (ms xs : List M) : Int :=
  if codeL ms xs = 0 then
    match clo ms (gm ms 0).p with
    | none => 3
    | some ps => if xs.all (fun f => decide (f ∈ eltM ps)) then 0 else 4
  else codeL ms xs
theorem monC_code {ms xs : List M} (h : codeL ms xs ≠ 0) : monC ms xs = codeL ms xs := if_neg h
theorem monC_none {ms xs : List M} (h : codeL ms xs = 0) (hc : clo ms (gm ms 0).p = none) : monC ms xs = 3 := by simp [monC, h, hc]
theorem monC_in {ms xs : List M} {ps : Met} (h : codeL ms xs = 0) (hc : clo ms (gm ms 0).p = some ps) (hx : ∀ f ∈ xs, f ∈ eltM ps) : monC ms xs = 0 := by
  unfold monC
  rw [if_pos h, hc]
  simp only
  rw [if_pos]
  rw [List.all_eq_true]
  exact fun f hf => decide_eq_true (hx f hf)
theorem monC_out {ms xs : List M} {ps : Met} {f : M} (h : codeL ms xs = 0) (hc : clo ms (gm ms 0).p = some ps) (hf : f ∈ xs) (hn : f ∉ eltM ps) : monC ms xs = 4 := by
  unfold monC
  rw [if_pos h, hc]
  simp only
  rw [if_neg]
  rw [List.all_eq_true]
  exact fun h => hn (of_decide_eq_true (h f hf))

theorem monoidOf_any (A1 A2 : Option Addr) (n1 c1 n2 c2 : Nat) (ms xs : List M) (w : World) (hx : RdM w w.heap.size A1 ms) (hy : RdM w w.heap.size A2 xs) (hn : ms.length = n1) (hm : xs.length = n2)
    (hA1 : A1 = none → n1 = 0 ∧ c1 = 0) (hA2 : A2 = none → n2 = 0 ∧ c2 = 0) (hb : n1 + n2 < 1073741824) :
    Calls Tryz.prog 131 #[.slice A1 n1 c1, .slice A2 n2 c2] w fun e w' => ∃ r v, e = .returned (.tuple #[r, v, I (monC ms xs)]) ∧ Below w.heap.size w w' ∧ (monC ms xs ≠ 0 → r = .pointer none ∧ v = .slice none 0 0) ∧
      ∀ ps, clo ms (gm ms 0).p = some ps → monC ms xs = 0 → ∃ g, r = .pointer (some ⟨g, 0, none⟩) ∧ MonAt (gm ms 0).p w.heap.size g (eltM ps) ((eltM ps).map (wordOf ps)) w' ∧ OwI 3 w' w.heap.size v (xs.map fun f => (ix (eltM ps) f : Int)) := by
  have Hx := Lib.hid hx
  have Hy := Lib.hid hy
  have Hn := Lib.hid hn
  have Hm := Lib.hid hm
  have HA1 := Lib.hid hA1
  have HA2 := Lib.hid hA2
  clear hx hy hn hm hA1 hA2
  go_enter Tryz.func131, Tryz.ntmps131
  go_wp2_with fail
  refine (listCode_any A1 A2 n1 c1 n2 c2 ms xs _ Hx.out Hy.out Hn.out Hm.out HA1.out HA2.out hb).mono ?_
  rintro e w1 ⟨rfl, hb1⟩
  by_cases hc : codeL ms xs = 0
  · obtain ⟨q1, q2, q3, q4, q5, q6⟩ := codeL_pts' hc
    have Hc := Lib.hid hc
    have H3 := Lib.hid q3
    have H4 := Lib.hid q4
    have Hb1 := Lib.hid hb1
    rw [hc]
    have hx1 := Rd.below Hx.out hb1
    obtain ⟨b, off, rfl, hbb, x0, x1, x2, x3, x4, x5⟩ := RdM.at_ hx1 (k := 0) (by omega)
    rw [Nat.zero_mul, Nat.add_zero] at x0
    have hl1 : 0 < n1 := by have := Hn.out; omega
    clear hc q3 q4 hb1 hx1 x1 x2 x3 x4 x5
    go_wp2_with fail
    refine (newMonoid_any (some ⟨b, off, none⟩) n1 c1 ms (gm ms 0).p w1 (Rd.more (Rd.below Hx.out Hb1.out) Hb1.out.size) Hn.out (by omega) q1 q2 H3.out).mono ?_
    rintro e w2 ⟨r, rfl, hb2, _, hsome⟩
    have Hb2 := Lib.hid (Hb1.out.trans (hb2.mono Hb1.out.size))
    clear x0
    cases hclo : clo ms (gm ms 0).p with
    | none =>
      have hcl : cloC ms (gm ms 0).p = 3 := by rw [cloC, hclo]; rfl
      have hmc := monC_none Hc.out hclo
      rw [hcl]
      clear hsome hb2
      go_wp2
      go_ret3
      exact ⟨_, _, by rw [hmc] <;> rfl, Hb2.out, fun _ => ⟨rfl, rfl⟩, fun ps h => (by rw [hclo] at h; cases h)⟩
    | some ps =>
      have hcl : cloC ms (gm ms 0).p = 0 := by rw [cloC, hclo]; rfl
      obtain ⟨g, rfl, hMA⟩ := hsome ps hclo
      rw [hcl]
      obtain ⟨E, hE⟩ : ∃ E, E = sortM (ps.map (·.1)) := ⟨_, rfl⟩
      rw [← hE] at hMA
      have hgd := (clo_good hclo).1
      have hEl : E.length ≤ 300 := by rw [hE, sortM_length hgd.nd, List.length_map]; exact hgd.len
      have HMA := Lib.hid hMA
      have HE := Lib.hid hE
      have Hclo := Lib.hid hclo
      have hs1 := Hb1.out.size
      have hs2 := hb2.size
      clear hsome hb2 hMA hE hcl hgd hclo
      go_wp2_with fail
      go_loopw [34, 10] (fun i v wr => ∃ r : Nat, i = .int .i64 r ∧ r ≤ n2 ∧ Below w2.heap.size w2 wr ∧ OwI 3 wr w2.heap.size v ((xs.take r).map fun f => (ix E f : Int)) ∧ ∀ f ∈ xs.take r, f ∈ E) (fun i _ _ => n2 - (intOf i).toNat)
      case atStart => exact ⟨0, rfl, by omega, Below.refl _ _, by simpa using OwI.nil_, by simp⟩
      case round =>
        obtain ⟨r, rfl, hr, hb, ho, hin⟩ := hrel
        have Hb := Lib.hid hb
        have Hin := Lib.hid hin
        have hlen : (List.map (fun f => (ix E f : Int)) (xs.take r)).length = r := by rw [List.length_map, List.length_take, Hm.out]; omega
        obtain ⟨A, cA, hv, _⟩ := ho.form
        rw [hlen] at hv
        subst hv
        have Ho := Lib.hid ho
        have Hlen := Lib.hid hlen
        have hsz := hb.size
        clear hb ho hin hlen
        by_cases hrl : r < n2
        · have hrE : (r : Int) < (n2 : Int) := by omega
          obtain ⟨b2, off2, rfl, hbb2, x0, x1, x2, x3, x4, x5⟩ := RdM.at_ (Rd.below (Rd.below Hy.out Hb2.out) (Hb.out.mono Hb2.out.size)) (k := r) (by rw [Hm.out]; exact hrl)
          obtain ⟨f, hf⟩ : ∃ f, f = gm xs r := ⟨_, rfl⟩
          rw [← hf] at x0 x1 x2 x3 x4 x5
          have hfx : f ∈ xs := by rw [hf]; exact gm_mem (by rw [Hm.out]; exact hrl)
          have hvf := (H4.out f hfx).1
          have Hpf := Lib.hid (H4.out f hfx).2
          have htk : xs.take (r + 1) = xs.take r ++ [f] := by rw [List.take_add_one, hf, gm_eq (by rw [Hm.out]; exact hrl), List.getElem?_eq_getElem (by rw [Hm.out]; exact hrl)]; rfl
          have Htk := Lib.hid htk
          have Hfx := Lib.hid hfx
          clear hf htk hfx
          go_wp2_with fail
          obtain ⟨wb, hwb⟩ : ∃ wb, wb = wr.alloc (.cells (mc f) 31) := ⟨_, rfl⟩
          have hwbs : wb.heap.size = wr.heap.size + 1 := by rw [hwb]; simp
          have Hbb := Lib.hid (Hb.out.alloc hsz (.cells (mc f) 31))
          have Hob := Lib.hid (Ho.out.alloc (.cells (mc f) 31))
          rw [← hwb] at Hbb Hob ⊢
          clear hwb x0 x1 x2 x3 x4 x5 Ho Hb
          refine (place_any f wb (HMA.out.below Hbb.out (Nat.le_refl _)) hEl hvf Hpf.out).mono ?_
          rintro e w3 ⟨rfl, hb3⟩
          have Hb3 := Lib.hid (Hbb.out.trans (hb3.mono Hbb.out.size))
          have Ho3 := Lib.hid (Hob.out.below hb3 (Nat.le_refl _))
          have hs3 := hb3.size
          clear hb3 Hbb Hob Hpf
          by_cases hfE : f ∈ E
          · have hpl : plOf E f - 1 = (ix E f : Int) := by rw [plOf_in hfE]; omega
            rw [hpl]
            have hxb : (ix E f : Int) < 300 := by have := ix_lt hfE; omega
            have HfE := Lib.hid hfE
            obtain ⟨x, hx⟩ : ∃ x, x = ix E f := ⟨_, rfl⟩
            rw [← hx] at hxb ⊢
            have Hxx := Lib.hid hx
            have hxn : ¬ ((x : Int) < 0) := by omega
            have hs4 : w2.heap.size ≤ w3.heap.size := by omega
            clear hfE hpl hx
            go_wp2_with (at_builtin; refine wpList_pushN rfl (.tmp 43) (.tmp 45) rfl w2.heap.size (.slice A r cA) _ rfl (Ho3.out.alloc _) r Hlen.out w3.heap.size 1 x rfl ((Blk.new _ _ _).cell 0) (by omega) (by simp; omega) (w3.heap.size + 1) (by simp) ?_; intro g' cap w4 ho' hgr hg' hlt')
            have Hb4 := Lib.hid ((Ho3.out.alloc (.cells #[I x] 3)).bel (Hb3.out.alloc hs4 _) hgr (Nat.le_refl _) (by simp; omega))
            have hn4 : List.map (fun f => (ix E f : Int)) (xs.take r) ++ [(x : Int)] = List.map (fun f => (ix E f : Int)) (xs.take (r + 1)) := by rw [Htk.out, List.map_append, Hxx.out]; rfl
            rw [hn4] at ho'
            have Ho4 := Lib.hid ho'
            clear ho' hgr hg' hlt' hn4
            go_wp2
            go_roundw
            case rel => exact ⟨r + 1, by go_num, by omega, Hb4.out, Ho4.out, fun f' hf' => by
              rw [Htk.out] at hf'
              rcases List.mem_append.1 hf' with h | h
              · exact Hin.out f' h
              · rw [List.mem_singleton.1 h]; exact HfE.out⟩
            case measure => simp [intOf]; omega
          · have hpl : plOf E f - 1 = -1 := by rw [plOf_out hfE]; rfl
            rw [hpl]
            have hmc : monC ms xs = 4 := monC_out Hc.out Hclo.out Hfx.out (by have h := hfE; rw [HE.out] at h; exact h)
            have Hbe := Lib.hid (Hb2.out.trans (Hb3.out.mono Hb2.out.size))
            clear hfE hpl
            go_wp2
            go_ret3
            exact ⟨_, _, by rw [hmc] <;> rfl, Hbe.out, fun _ => ⟨rfl, rfl⟩, fun ps' _ h => by rw [hmc] at h; cases h⟩
        · obtain rfl : r = n2 := by omega
          have hrl' : ¬ ((r : Int) < (r : Int)) := by omega
          have htk : xs.take r = xs := List.take_of_length_le (by rw [Hm.out]; exact Nat.le_refl _)
          rw [htk] at Hin Ho
          have Hmc : Hid (monC ms xs = 0) := monC_in Hc.out Hclo.out (by have h := Hin.out; rw [HE.out] at h; exact h)
          have HM3 := Lib.hid (HMA.out.below Hb.out (Nat.le_refl _))
          have Hbe := Lib.hid (Hb2.out.trans (Hb.out.mono Hb2.out.size))
          clear htk
          go_wp2
          go_ret3
          refine ⟨_, _, by rw [Hmc.out] <;> rfl, Hbe.out, fun h => absurd Hmc.out h, fun ps' h _ => ?_⟩
          rw [Hclo.out] at h
          injection h with h
          subst h
          have hE := HE.out
          subst hE
          exact ⟨g, rfl, HM3.out.from hs1, Ho.out.mono (by omega)⟩
  · go_wp2
    go_ret3
    exact ⟨_, _, by rw [monC_code hc] <;> rfl, hb1, fun _ => ⟨rfl, rfl⟩, fun ps _ h => absurd (by rw [monC_code hc] at h; exact h) hc⟩
end Go.Proofs.YtkbfocoaobiijaaGreat

/- Contract of the reference's table of ideals; conditions as the theorem states. Contract of the reference's numbers of classes from a table; at most 300 rows. Contract of the reference's numbers of the classes of a kind; conditions as the theorem states. -/
import Derived.Test.YtkbfocoaobiijaaGreatIJ
namespace Go.Proofs.YtkbfocoaobiijaaGreat
open Go.RowKit
set_option maxRecDepth 100000
set_option linter.unusedSimpArgs false
set_option linter.unusedVariables false

abbrev TBS : TypeId := 138
theorem infoBS : (Tryz.prog.info? TBS).map (fun i => (i.zero, i.size, i.bytes)) = some (some (.slice none 0 0), 1, 24) := by kernel_rfl
theorem wpList_pushR {w : World} {ops : Array Oper} {rest : List Oper} {o : Oper} {a : Act} {Q : Exit → Act → World → Prop} (hgd : o.guard = none) (s x : Operand)
    (ho : o.op = .call { callee := .builtin .append, args := #[s, x], argTypes := #[149, 149] }) (B : Nat) (v : Value) (vs : List Value) (hs : a.eval s = v) (hown : OwV TBS w B v vs) (n : Nat) (hlen : vs.length = n)
    (g : Nat) (c : Nat) (u : Value) (hx : a.eval x = .slice (some ⟨g, 0, none⟩) 1 c) (hg : w.cell? ⟨g, 0, none⟩ = some u) (hu : u.oneCell' = true)
    (hn : n < 1073741824) (hB : B ≤ w.heap.size) (H : Nat) (hH : w.heap.size = H)
    (h : ∀ g' cap w', OwV TBS w' B (.slice (some ⟨g', 0, none⟩) (n + 1) cap) (vs ++ [u]) → w.grownBy w' v.ownBlock → (v.ownBlock = some g' ∨ g' = H) → g' < w'.heap.size →
      wpList Tryz.prog ops Q rest (a.put o.dst (.slice (some ⟨g', 0, none⟩) (n + 1) cap)) w') : wpList Tryz.prog ops Q (o :: rest) a w := by
  subst hlen
  obtain ⟨i, hi, hz0, hz1, hz2⟩ := info_parts infoBS
  refine wpList_append_lies w hgd s x 149 ho B TBS i (.slice none 0 0) 1 24 Tryz.underlying149 hi hz0 hz1 hz2 rfl (by decide) v vs.length vs hs hown ⟨g, 0, none⟩ 1 c [u] hx rfl ?_ ?_ (by decide) (by unfold maxLen; omega) (by omega) hB H hH ?_
  · intro j u' hj
    match j, hj with
    | 0, hj => simp at hj; subst hj; simpa [Addr.add] using hg
  · intro u' hu'; simp at hu'; subst hu'; exact hu
  · intro g' cap w' h1 h2 h3 h4
    exact h g' cap w' (by unfold OwV; simpa using h1) h2 h3 h4

/-- the rows vs of a table of n flags each stand in w, above B and beside block o -/
def Tbl (w : World) (B n : Nat) (o : Option Nat) (vs : List Value) (Q : Nat → Nat → Bool) : Prop := ∀ j, j < vs.length → ∃ g, gv vs j = .slice (some ⟨g, 0, none⟩) n n ∧ Bls w g n (Q j) ∧ B ≤ g ∧ o ≠ some g
def RetT (N : Nat) (Q : Nat → Nat → Bool) (w : World) (e : Ending) (w' : World) : Prop := ∃ v vs, e = .returned v ∧ OwV TBS w' w.heap.size v vs ∧ vs.length = N ∧ Tbl w' w.heap.size N v.ownBlock vs Q ∧ Below w.heap.size w w'

set_option maxHeartbeats 1000000 in
theorem l03Table_any (A : Option Addr) (N c : Nat) (E : List M) (Ag : Option Addr) (k cg : Nat) (ms : List M) (l r : Bool) {n : Int} (w : World) (hx : RdM w w.heap.size A E) (hn : E.length = N) (hy : RdM w w.heap.size Ag ms) (hm2 : ms.length = k) (hN : N ≤ 300) (hk : k ≤ 6)
    (hM : Mnd n E) (hE : ∀ x, x ∈ E ↔ Mon ms n x) (hG : Pts n ms) :
    Calls Tryz.prog 173 #[.slice A N c, .slice Ag k cg, .bool l, .bool r] w (RetT N (fun i y => decide (Rel E l r (gm E i) (gm E y))) w) := by
  have Hx := Lib.hid hx
  have Hy := Lib.hid hy
  have Hn := Lib.hid hn
  have Hk := Lib.hid hm2
  have HM := Lib.hid hM
  have HE := Lib.hid hE
  have HG := Lib.hid hG
  clear hx hy hn hm2 hM hE hG
  go_enter Tryz.func173, Tryz.ntmps173
  go_wp2_with fail
  go_loopw [9, 10] (fun v i wr => ∃ (q : Nat) (vs : List Value), i = .int .i64 q ∧ q ≤ N ∧ vs.length = q ∧ Below w.heap.size w wr ∧ OwV TBS wr w.heap.size v vs ∧ Tbl wr w.heap.size N v.ownBlock vs (fun i y => decide (Rel E l r (gm E i) (gm E y)))) (fun _ i _ => N - (intOf i).toNat)
  case atStart => exact ⟨0, [], rfl, by omega, rfl, (Below.refl _ _).alloc (Nat.le_refl _) _, World.ownsRow_made w #[] 0 (Nat.le_refl _) (by simp [maxLen]) (by simp), fun j hj => by simp at hj⟩
  case round =>
    obtain ⟨q, vs, rfl, hq, hvl, hb', ho, ht⟩ := hrel
    obtain ⟨Av, cv, hv, _⟩ := ho.form
    rw [hvl] at hv
    subst hv
    have Hb := Lib.hid hb'
    have Ho := Lib.hid ho
    have Ht := Lib.hid ht
    have Hvl := Lib.hid hvl
    have hsz := hb'.size
    clear hb' ho ht hvl
    by_cases hqN : q < N
    · have hqz : (q : Int) < (N : Int) := by omega
      go_wp2_with fail
      refine (l03Reach_any A N c E Ag k cg ms q l r wr (Rd.more (Rd.below Hx.out Hb.out) hsz) Hn.out (Rd.more (Rd.below Hy.out Hb.out) hsz) Hk.out hN hk HM.out HE.out HG.out hqN).mono ?_
      rintro e w3 ⟨g3, rfl, hg3, hB3, hb3⟩
      have Hb3 := Lib.hid (Hb.out.trans (hb3.mono hsz))
      have Ho3 := Lib.hid (Ho.out.below hb3 (Nat.le_refl _))
      have HB3 := Lib.hid hB3
      have Ht3 : Hid (Tbl w3 w.heap.size N (Value.slice Av q cv).ownBlock vs (fun i y => decide (Rel E l r (gm E i) (gm E y)))) := fun j hj => by
        obtain ⟨g, e1, e2, e3, e4⟩ := Ht.out j hj
        exact ⟨g, e1, e2.below hb3 e2.lt, e3, e4⟩
      have hown3 : (Value.slice Av q cv).ownBlock ≠ some g3 := fun e => by have := (Ho.out.lt g3 e).2; omega
      have hl3 := hB3.lt
      have hz3 := hb3.size
      clear hb3 hB3 Hb Ho Ht
      go_wp2_with (at_builtin; refine wpList_pushR rfl (.tmp 18) (.tmp 25) rfl w.heap.size (.slice Av q cv) vs rfl (Ho3.out.alloc _) q Hvl.out w3.heap.size 1 (.slice (some ⟨g3, 0, none⟩) N N) rfl ((Blk.new _ _ _).cell 0) rfl (by omega) (by simp; omega) (w3.heap.size + 1) (by simp) ?_; intro g' cap w4 ho' hgr hg' hlt'; have Hb4 := Lib.hid ((Ho3.out.alloc (.cells #[.slice (some ⟨g3, 0, none⟩) N N] TBS)).bel (Hb3.out.alloc (by omega) _) hgr (Nat.le_refl _) (by simp; omega)); have Ho4 := Lib.hid ho'; have Hgr := Lib.hid hgr; have Hg' := Lib.hid hg'; clear ho' hgr hg' hlt')
      have Ht4 : Hid (Tbl w4 w.heap.size N (some g') (vs ++ [.slice (some ⟨g3, 0, none⟩) N N]) (fun i y => decide (Rel E l r (gm E i) (gm E y)))) := fun j hj => by
        have far : ∀ g Q, Bls w3 g N Q → (Value.slice Av q cv).ownBlock ≠ some g → Bls w4 g N Q ∧ some g' ≠ some g := fun g Q h1 h2 => by
          have hlg := h1.lt
          refine ⟨(h1.grown (World.grownBy_alloc w3 (.cells #[.slice (some ⟨g3, 0, none⟩) N N] TBS) none) (by simp)).grown Hgr.out (fun e => h2 e.symm), ?_⟩
          rcases Hg'.out with e | e
          · rw [← e]; exact h2
          · intro e2; injection e2 with e2; omega
        rw [List.length_append, List.length_singleton, Hvl.out] at hj
        by_cases e : j < q
        · obtain ⟨g, e1, e2, e3, e4⟩ := Ht3.out j (by rw [Hvl.out]; exact e)
          obtain ⟨f1, f2⟩ := far g _ e2 e4
          refine ⟨g, ?_, f1, e3, f2⟩
          rw [← e1]
          unfold gv
          rw [List.getD_eq_getElem?_getD, List.getD_eq_getElem?_getD, List.getElem?_append_left (by rw [Hvl.out]; exact e)]
        · obtain rfl : j = q := by omega
          obtain ⟨f1, f2⟩ := far g3 _ HB3.out hown3
          refine ⟨g3, ?_, f1, by omega, f2⟩
          unfold gv
          rw [List.getD_eq_getElem?_getD, List.getElem?_append_right (by rw [Hvl.out]; exact Nat.le_refl _), Hvl.out, Nat.sub_self]
          rfl
      go_wp2_with fail
      go_roundw
      case rel => exact ⟨q + 1, vs ++ [.slice (some ⟨g3, 0, none⟩) N N], by go_num, by omega, by rw [List.length_append, Hvl.out]; rfl, Hb4.out, Ho4.out, (by have h := Ht4.out; exact h)⟩
      case measure => simp [intOf]; omega
    · obtain rfl : q = N := by omega
      have hqz : ¬ ((q : Int) < (q : Int)) := by omega
      go_wp2_with fail
      go_ret
      exact ⟨_, vs, rfl, Ho.out, Hvl.out, Ht.out, Hb.out⟩

set_option maxRecDepth 100000
set_option linter.unusedSimpArgs false
set_option linter.unusedVariables false

def both (Q : Nat → Nat → Bool) (k i : Nat) : Bool := Q i k && Q k i
theorem OwV.rdA {e : TypeId} {w : World} {B n c : Nat} {A : Option Addr} {vs : List Value} (h : OwV e w B (.slice A n c) vs) : RdV w w.heap.size A vs := by
  obtain ⟨A', c', e, h⟩ := h.form
  injection e with e1
  subst e1
  exact h
theorem RdV.at0 {w : World} {B : Nat} {b off : Nat} {vs : List Value} (h : RdV w B (some ⟨b, off, none⟩) vs) {k : Nat} (hk : k < vs.length) : w.cell? ⟨b, off + k, none⟩ = some (gv vs k) := by
  obtain ⟨b', off', e, _, c⟩ := h.at_ hk
  injection e with e
  injection e with e1 e2 _
  subst e1 e2
  exact c
theorem RdI.at0 {w : World} {B : Nat} {b off : Nat} {zs : List Int} (h : RdI w B (some ⟨b, off, none⟩) zs) {k : Nat} (hk : k < zs.length) : w.cell? ⟨b, off + k, none⟩ = some (I (gi zs k)) := by
  obtain ⟨b', off', e, _, c⟩ := h.at_ hk
  injection e with e
  injection e with e1 e2 _
  subst e1 e2
  exact c

set_option maxHeartbeats 1000000 in
theorem l03Classes_any (Av : Option Addr) (N cv : Nat) (vs : List Value) (Q : Nat → Nat → Bool) (B : Nat) (w : World) (ho : OwV TBS w B (.slice Av N cv) vs) (hl : vs.length = N) (hT : Tbl w B N (Value.slice Av N cv).ownBlock vs Q) (hN : N ≤ 300) :
    Calls Tryz.prog 174 #[.slice Av N cv] w (RetC (nm (both Q) N).1 w) := by
  have HR := Lib.hid ho.rdA
  have Hl := Lib.hid hl
  have HT := Lib.hid hT
  clear ho hl hT
  go_enter Tryz.func174, Tryz.ntmps174
  go_wp2_with fail
  go_loopw [3, 4, 5] (fun v nx i wr => ∃ q : Nat, i = .int .i64 q ∧ q ≤ N ∧ nx = I (nm (both Q) q).2 ∧ Below w.heap.size w wr ∧ OwI 2 wr w.heap.size v (nm (both Q) q).1) (fun _ _ i _ => N - (intOf i).toNat)
  case atStart => exact ⟨0, rfl, by omega, rfl, (Below.refl _ _).alloc (Nat.le_refl _) _, OwI.made (Nat.le_refl _)⟩
  case round =>
    obtain ⟨q, rfl, hq, rfl, hb', ho⟩ := hrel
    have hnl := nm_length (both Q) q
    have hnb := nm_bd (both Q) q
    obtain ⟨A1, c1, hv, _⟩ := ho.form
    rw [hnl] at hv
    subst hv
    have Hb := Lib.hid hb'
    have Ho1 := Lib.hid ho
    have hsz := hb'.size
    clear hb' ho
    by_cases hqN : q < N
    · have hqz : (q : Int) < (N : Int) := by omega
      obtain ⟨b, off, rfl, hbb, _⟩ := RdV.at_ HR.out (k := q) (by rw [Hl.out]; exact hqN)
      obtain ⟨gq, e1, e2, _, _⟩ := HT.out q (by rw [Hl.out]; exact hqN)
      have E1 := Lib.hid e1
      have E2 := Lib.hid e2
      clear e1 e2
      go_wp2_with fail
      go_loopw [6, 7] (fun own k wq => ∃ m : Nat, k = .int .i64 m ∧ m ≤ q ∧ Below wr.heap.size wr wq ∧ ((own = I (-1) ∧ Hid (∀ t, t < m → both Q t q = false)) ∨ ∃ t, t < q ∧ own = I (gi (nm (both Q) q).1 t) ∧ Hid (nm (both Q) (q + 1) = ((nm (both Q) q).1 ++ [gi (nm (both Q) q).1 t], (nm (both Q) q).2)))) (fun _ k _ => q - (intOf k).toNat)
      case atStart => exact ⟨0, rfl, by omega, Below.refl _ _, .inl ⟨rfl, fun t ht => by omega⟩⟩
      case round =>
        obtain ⟨m, rfl, hm, hbq, hor⟩ := hrel
        have Hbq := Lib.hid hbq
        have hsq := hbq.size
        have Hbw := Lib.hid (Hb.out.trans (hbq.mono hsz))
        have Ho3 := Lib.hid (Ho1.out.below hbq (Nat.le_refl _))
        clear hbq
        rcases hor with ⟨rfl, hno⟩ | ⟨t, htq, rfl, hnm⟩
        · by_cases hmq : m < q
          · have hmz : (m : Int) < (q : Int) := by omega
            have hmN : (m : Int) < (N : Int) := by omega
            obtain ⟨gm, f1, f2, _, _⟩ := HT.out m (by rw [Hl.out]; omega)
            have x1 := RdV.at0 (Rd.below HR.out Hbw.out) (k := q) (by rw [Hl.out]; exact hqN)
            have x2 := RdV.at0 (Rd.below HR.out Hbw.out) (k := m) (by rw [Hl.out]; omega)
            rw [E1.out] at x1
            rw [f1] at x2
            have x3 := (E2.out.below Hbw.out E2.out.lt).cell (i := m) (by omega)
            have x4 := (f2.below Hbw.out f2.lt).cell (i := q) hqN
            clear f1 f2
            obtain ⟨A, offA, rfl, hbA, _⟩ := RdI.at_ Ho3.out.rdA (k := m) (by rw [hnl]; exact hmq)
            have x5 := RdI.at0 Ho3.out.rdA (k := m) (by rw [hnl]; exact hmq)
            have hbo : ∀ a b, Q q m = a → Q m q = b → both Q m q = (a && b) := fun a b h1 h2 => by unfold both; rw [h1, h2]
            have nxt : both Q m q = false → Hid (∀ t, t < m + 1 → both Q t q = false) := fun h t ht => by
              by_cases e : t = m
              · rw [e]; exact h
              · exact hno.out t (by omega)
            cases h1 : Q q m
            · rw [h1] at x3
              have Hn := nxt (by cases h2 : Q m q <;> rw [hbo _ _ h1 h2] <;> rfl)
              clear nxt hbo h1 x2 x4 x5
              go_wp2_with fail
              go_roundw
              case rel => exact ⟨m + 1, by go_num, by omega, Hbq.out, .inl ⟨rfl, Hn⟩⟩
              case measure => simp [intOf]; omega
            · rw [h1] at x3
              cases h2 : Q m q
              · rw [h2] at x4
                have Hn := nxt (by rw [hbo _ _ h1 h2]; rfl)
                clear nxt hbo h1 h2 x5
                go_wp2_with fail
                go_roundw
                case rel => exact ⟨m + 1, by go_num, by omega, Hbq.out, .inl ⟨rfl, Hn⟩⟩
                case measure => simp [intOf]; omega
              · rw [h2] at x4
                have Hn : Hid (nm (both Q) (q + 1) = ((nm (both Q) q).1 ++ [gi (nm (both Q) q).1 m], (nm (both Q) q).2)) := nm_hit hmq (by rw [hbo _ _ h1 h2]; rfl) hno.out
                clear nxt hbo h1 h2
                go_wp2_with fail
                go_roundw
                case rel => exact ⟨m + 1, by go_num, by omega, Hbq.out, .inr ⟨m, hmq, rfl, Hn⟩⟩
                case measure => simp [intOf]; omega
          · obtain rfl : m = q := by omega
            have hmz : ¬ ((m : Int) < (m : Int)) := by omega
            have Hn : Hid (nm (both Q) (m + 1) = ((nm (both Q) m).1 ++ [(nm (both Q) m).2], (nm (both Q) m).2 + 1)) := nm_new hno.out
            have hwr : IntKind.i64.wrap ((nm (both Q) m).2 + 1) = (nm (both Q) m).2 + 1 := IntWalk.i64_in _ ⟨by omega, by omega⟩
            go_wp2_with (at_builtin; refine wpList_pushI rfl (.tmp 49) (.tmp 51) rfl w.heap.size (.slice A1 m c1) (nm (both Q) m).1 rfl (Ho3.out.alloc _) wr.heap.size 1 (nm (both Q) m).2 rfl ((Blk.new _ _ _).cell 0) (by rw [hnl]; omega) (by simp; omega) (wr.heap.size + 1) (by simp) ?_; intro g' cap w4 ho' hgr hg' hlt'; have Hb4 := Lib.hid ((Ho3.out.alloc (.cells #[I (nm (both Q) m).2] 2)).bel (Hbw.out.alloc (by omega) _) hgr (Nat.le_refl _) (by simp; omega)); have Ho4 := Lib.hid ho'; rw [hnl] at Ho4; clear ho' hgr hg' hlt')
            go_roundw
            case rel => exact ⟨m + 1, by go_num, by omega, by rw [Hn.out], Hb4.out, by rw [Hn.out]; exact Ho4.out⟩
            case measure => simp [intOf]; omega
        · have hval := nm_val (both Q) q t htq
          obtain ⟨z, hz⟩ : ∃ z, z = gi (nm (both Q) q).1 t := ⟨_, rfl⟩
          rw [← hz] at hval hnm ⊢
          clear hz
          have hz0 : ¬ (z < 0) := by omega
          clear hval
          rcases Decidable.em ((m : Int) < (q : Int)) with hmz | hmz
          all_goals
            go_wp2_with (at_builtin; refine wpList_pushI rfl (.tmp 49) (.tmp 51) rfl w.heap.size (.slice A1 q c1) (nm (both Q) q).1 rfl (Ho3.out.alloc _) wr.heap.size 1 z rfl ((Blk.new _ _ _).cell 0) (by rw [hnl]; omega) (by simp; omega) (wr.heap.size + 1) (by simp) ?_; intro g' cap w4 ho' hgr hg' hlt'; have Hb4 := Lib.hid ((Ho3.out.alloc (.cells #[I z] 2)).bel (Hbw.out.alloc (by omega) _) hgr (Nat.le_refl _) (by simp; omega)); have Ho4 := Lib.hid ho'; rw [hnl] at Ho4; clear ho' hgr hg' hlt')
            refine ⟨⟨q + 1, by go_num, by omega, by rw [hnm.out], Hb4.out, by rw [hnm.out]; exact Ho4.out⟩, by simp [intOf]; omega⟩
    · obtain rfl : q = N := by omega
      have hqz : ¬ ((q : Int) < (q : Int)) := by omega
      clear hnb
      go_wp2_with fail
      go_ret
      exact ⟨_, rfl, Ho1.out, Hb.out⟩

set_option maxRecDepth 100000
set_option linter.unusedSimpArgs false
set_option linter.unusedVariables false

theorem both_cls {n : Int} {E : List M} {N : Nat} (hn : E.length = N) {l r : Bool} {kind : Int} (h : ∀ i k, bothB E l r i k = sameK E kind i k) :
    (nm (both fun i y => decide (Rel E l r (gm E i) (gm E y))) N).1 = clsK E kind := by
  subst hn
  unfold clsK
  congr 1
  refine nm_congr fun a b _ _ => ?_
  rw [← h a b]
  unfold both bothB relB
  exact Bool.and_comm _ _
theorem RetC.up {zs : List Int} {w w1 : World} {e : Ending} {w' : World} (h : RetC zs w1 e w') (hb : Below w.heap.size w w1) : RetC zs w e w' := by
  obtain ⟨v, e1, ho, h1⟩ := h
  exact ⟨v, e1, ho.mono hb.size, hb.trans (h1.mono hb.size)⟩

set_option maxHeartbeats 1000000 in
theorem l03Kind1_any (A : Option Addr) (N c : Nat) (E : List M) (Ag : Option Addr) (k cg : Nat) (ms : List M) {n : Int} (kind : Int) (l r : Bool) (hk0 : (kind = 0 ∧ l = true ∧ r = false) ∨ (kind = 1 ∧ l = false ∧ r = true) ∨ (kind = 3 ∧ l = true ∧ r = true))
    (w : World) (hx : RdM w w.heap.size A E) (hn : E.length = N) (hy : RdM w w.heap.size Ag ms) (hm2 : ms.length = k) (hN : N ≤ 300) (hk : k ≤ 6)
    (hM : Mnd n E) (hE : ∀ x, x ∈ E ↔ Mon ms n x) (hG : Pts n ms) :
    Calls Tryz.prog 152 #[.slice A N c, .slice Ag k cg, I kind] w (RetC (clsK E kind) w) := by
  have Hx := Lib.hid hx
  have Hy := Lib.hid hy
  have Hn := Lib.hid hn
  have Hk := Lib.hid hm2
  have HM := Lib.hid hM
  have HE := Lib.hid hE
  have HG := Lib.hid hG
  have HC : Hid (∀ l r kind, (∀ i k, bothB E l r i k = sameK E kind i k) → (nm (both fun i y => decide (Rel E l r (gm E i) (gm E y))) N).1 = clsK E kind) := fun l r kind h => both_cls (n := n) hn h
  clear hx hy hn hm2 hM hE hG
  rcases hk0 with ⟨rfl, rfl, rfl⟩ | ⟨rfl, rfl, rfl⟩ | ⟨rfl, rfl, rfl⟩
  all_goals
    go_enter Tryz.func152, Tryz.ntmps152
    go_wp2_with fail
    refine (l03Table_any A N c E Ag k cg ms _ _ w Hx.out Hn.out Hy.out Hk.out hN hk HM.out HE.out HG.out).mono ?_
    rintro e w1 ⟨v, vs, rfl, ho, hl, hT, hb1⟩
    obtain ⟨Av, cv, hv, _⟩ := ho.form
    rw [hl] at hv
    subst hv
    have Ho := Lib.hid ho
    have Hl := Lib.hid hl
    have HT := Lib.hid hT
    have Hb := Lib.hid hb1
    have hz := hb1.size
    clear ho hl hT hb1
    go_wp2_with fail
    refine (l03Classes_any Av N cv vs _ w.heap.size w1 Ho.out Hl.out HT.out hN).mono ?_
    rintro e w2 ⟨v2, rfl, ho2, hb2⟩
    have Ho2 := Lib.hid ho2
    have Hb2 := Lib.hid (Hb.out.trans (hb2.mono hz))
    obtain ⟨A2, c2, hv2, _⟩ := ho2.form
    clear ho2 hb2
    subst hv2
    go_wp2_with fail
    go_ret
    refine ⟨_, rfl, ?_, Hb2.out⟩
  · rw [← HC.out true false 0 fun i k => bothB_L E i k]
    exact Ho2.out.mono hz
  · rw [← HC.out false true 1 fun i k => bothB_R E i k]
    exact Ho2.out.mono hz
  · rw [← HC.out true true 3 fun i k => bothB_J E i k]
    exact Ho2.out.mono hz

def pairQ (xs ys : List Int) (k i : Nat) : Bool := decide (gi xs k = gi xs i) && decide (gi ys k = gi ys i)
set_option maxHeartbeats 2000000 in
theorem l03Kind2_any (A : Option Addr) (N c : Nat) (E : List M) (Ag : Option Addr) (k cg : Nat) (ms : List M) {n : Int}
    (w : World) (hx : RdM w w.heap.size A E) (hn : E.length = N) (hy : RdM w w.heap.size Ag ms) (hm2 : ms.length = k) (hN : N ≤ 300) (hk : k ≤ 6)
    (hM : Mnd n E) (hE : ∀ x, x ∈ E ↔ Mon ms n x) (hG : Pts n ms) :
    Calls Tryz.prog 152 #[.slice A N c, .slice Ag k cg, I 2] w (RetC (clsK E 2) w) := by
  have HC : Hid ((nm (pairQ (clsK E 0) (clsK E 1)) N).1 = clsK E 2) := by
    show _ = _
    subst hn
    unfold clsK
    congr 1
    refine nm_congr fun a b ha hb => ?_
    exact full_same hM ha hb
  obtain ⟨xs, hxs⟩ : ∃ xs, xs = clsK E 0 := ⟨_, rfl⟩
  obtain ⟨ys, hys⟩ : ∃ ys, ys = clsK E 1 := ⟨_, rfl⟩
  have hxl : xs.length = N := by rw [hxs, clsK_length, hn]
  have hyl : ys.length = N := by rw [hys, clsK_length, hn]
  have Hx := Lib.hid hx
  have Hy := Lib.hid hy
  have Hn := Lib.hid hn
  have Hk := Lib.hid hm2
  have HM := Lib.hid hM
  have HE := Lib.hid hE
  have HG := Lib.hid hG
  have Hxl := Lib.hid hxl
  have Hyl := Lib.hid hyl
  have Hxs := Lib.hid hxs
  have Hys := Lib.hid hys
  clear hx hy hn hm2 hM hE hG hxl hyl hxs hys
  go_enter Tryz.func152, Tryz.ntmps152
  go_wp2_with fail
  refine (l03Kind1_any A N c E Ag k cg ms 0 true false (.inl ⟨rfl, rfl, rfl⟩) w Hx.out Hn.out Hy.out Hk.out hN hk HM.out HE.out HG.out).mono ?_
  rintro e w1 ⟨v, rfl, ho, hb1⟩
  rw [← Hxs.out] at ho
  obtain ⟨A1, c1, hv, _⟩ := ho.form
  rw [Hxl.out] at hv
  subst hv
  have Ho := Lib.hid ho
  have Hb := Lib.hid hb1
  have hz := hb1.size
  clear ho hb1
  go_wp2_with fail
  refine (l03Kind1_any A N c E Ag k cg ms 1 false true (.inr (.inl ⟨rfl, rfl, rfl⟩)) w1 (Rd.more (Rd.below Hx.out Hb.out) hz) Hn.out (Rd.more (Rd.below Hy.out Hb.out) hz) Hk.out hN hk HM.out HE.out HG.out).mono ?_
  rintro e w2 ⟨v, rfl, ho2, hb2⟩
  rw [← Hys.out] at ho2
  obtain ⟨A2, c2, hv, _⟩ := ho2.form
  rw [Hyl.out] at hv
  subst hv
  have Ho1 := Lib.hid (Ho.out.below hb2 (Nat.le_refl _)).rdA
  have Ho2 := Lib.hid ho2.rdA
  have Hb2 := Lib.hid (Hb.out.trans (hb2.mono hz))
  have hz2 := hb2.size
  clear ho2 hb2 Ho Hb
  go_wp2_with fail
  go_loopw [9, 10, 11] (fun v nx i wr => ∃ q : Nat, i = .int .i64 q ∧ q ≤ N ∧ nx = I (nm (pairQ xs ys) q).2 ∧ Below w2.heap.size w2 wr ∧ OwI 2 wr w2.heap.size v (nm (pairQ xs ys) q).1) (fun _ _ i _ => N - (intOf i).toNat)
  case atStart => exact ⟨0, rfl, by omega, rfl, (Below.refl _ _).alloc (Nat.le_refl _) _, OwI.made (Nat.le_refl _)⟩
  case round =>
    obtain ⟨q, rfl, hq, rfl, hb', ho⟩ := hrel
    have hnl := nm_length (pairQ xs ys) q
    have hnb := nm_bd (pairQ xs ys) q
    obtain ⟨A3, c3, hv, _⟩ := ho.form
    rw [hnl] at hv
    subst hv
    have Hb := Lib.hid hb'
    have Ho3 := Lib.hid ho
    have hsz := hb'.size
    clear hb' ho
    by_cases hqN : q < N
    · have hqz : (q : Int) < (N : Int) := by omega
      obtain ⟨b1, off1, rfl, hbb1, _⟩ := RdI.at_ Ho1.out (k := q) (by rw [Hxl.out]; exact hqN)
      obtain ⟨b2, off2, rfl, hbb2, _⟩ := RdI.at_ Ho2.out (k := q) (by rw [Hyl.out]; exact hqN)
      go_wp2_with fail
      go_loopw [12, 13] (fun own k wq => ∃ m : Nat, k = .int .i64 m ∧ m ≤ q ∧ Below wr.heap.size wr wq ∧ ((own = I (-1) ∧ Hid (∀ t, t < m → pairQ xs ys t q = false)) ∨ ∃ t, t < q ∧ own = I (gi (nm (pairQ xs ys) q).1 t) ∧ Hid (nm (pairQ xs ys) (q + 1) = ((nm (pairQ xs ys) q).1 ++ [gi (nm (pairQ xs ys) q).1 t], (nm (pairQ xs ys) q).2)))) (fun _ k _ => q - (intOf k).toNat)
      case atStart => exact ⟨0, rfl, by omega, Below.refl _ _, .inl ⟨rfl, fun t ht => by omega⟩⟩
      case round =>
        obtain ⟨m, rfl, hm, hbq, hor⟩ := hrel
        have Hbq := Lib.hid hbq
        have hsq := hbq.size
        have Hbw := Lib.hid (Hb.out.trans (hbq.mono hsz))
        have Ho4 := Lib.hid (Ho3.out.below hbq (Nat.le_refl _))
        clear hbq
        rcases hor with ⟨rfl, hno⟩ | ⟨t, htq, rfl, hnm⟩
        · by_cases hmq : m < q
          · have hmz : (m : Int) < (q : Int) := by omega
            have hmN : (m : Int) < (N : Int) := by omega
            have hsw := Hbw.out.size
            obtain ⟨a, ha⟩ : ∃ a, a = gi xs m := ⟨_, rfl⟩
            obtain ⟨b, hb⟩ : ∃ b, b = gi xs q := ⟨_, rfl⟩
            obtain ⟨cc, hc⟩ : ∃ cc, cc = gi ys m := ⟨_, rfl⟩
            obtain ⟨dd, hd⟩ : ∃ dd, dd = gi ys q := ⟨_, rfl⟩
            have Ha := Lib.hid ha
            have Hb1 := Lib.hid hb
            have Hc := Lib.hid hc
            have Hd := Lib.hid hd
            have Hpq : Hid (pairQ xs ys m q = (decide (a = b) && decide (cc = dd))) := by show _ = _; unfold pairQ; rw [ha, hb, hc, hd]
            have nxt : Hid (pairQ xs ys m q = false → ∀ t, t < m + 1 → pairQ xs ys t q = false) := fun h t ht => by
              by_cases e : t = m
              · rw [e]; exact h
              · exact hno.out t (by omega)
            clear ha hb hc hd
            have HF : Hid (∀ w', Below wr.heap.size wr w' → w'.cell? ⟨b1, off1 + m, none⟩ = some (I a) ∧ w'.cell? ⟨b1, off1 + q, none⟩ = some (I b) ∧ w'.cell? ⟨b2, off2 + m, none⟩ = some (I cc) ∧ w'.cell? ⟨b2, off2 + q, none⟩ = some (I dd)) := fun w' hS => by
              have hB := Hbw.out.trans (hS.mono hsw)
              rw [Ha.out, Hb1.out, Hc.out, Hd.out]
              exact ⟨RdI.at0 (Rd.below Ho1.out hB) (by rw [Hxl.out]; omega), RdI.at0 (Rd.below Ho1.out hB) (by rw [Hxl.out]; omega), RdI.at0 (Rd.below Ho2.out hB) (by rw [Hyl.out]; omega), RdI.at0 (Rd.below Ho2.out hB) (by rw [Hyl.out]; omega)⟩
            by_cases h1 : a = b
            · by_cases h2 : cc = dd
              · have Hn : Hid (nm (pairQ xs ys) (q + 1) = ((nm (pairQ xs ys) q).1 ++ [gi (nm (pairQ xs ys) q).1 m], (nm (pairQ xs ys) q).2)) := nm_hit hmq (by rw [Hpq.out, decide_eq_true h1, decide_eq_true h2]; rfl) hno.out
                subst h1
                subst h2
                obtain ⟨A, offA, rfl, hbA, _⟩ := RdI.at_ Ho4.out.rdA (k := m) (by rw [hnl]; exact hmq)
                clear hnb
                go_wp2_with fail
                refine wp_region_same [] rfl (by kernel_rfl) (by kernel_rfl) (by kernel_rfl) (fun w' => Below wr.heap.size wr w') _
                  [.slice (some ⟨b1, off1, none⟩) N c1, I m, .pointer (some ⟨b1, off1 + m, none⟩), I a, .slice (some ⟨b1, off1, none⟩) N c1, I q, .pointer (some ⟨b1, off1 + q, none⟩), I a, .bool true, .bool true, .slice (some ⟨b2, off2, none⟩) N c2, I m, .pointer (some ⟨b2, off2 + m, none⟩), I cc, .slice (some ⟨b2, off2, none⟩) N c2, I q, .pointer (some ⟨b2, off2 + q, none⟩), I cc, .bool true, .bool true]
                  (by simp only [putAll, List.setIfInBounds_toArray, List.set_cons_succ, List.set_cons_zero]; rfl) (Below.refl _ _).drew ?hop ?hQ
                case hop =>
                  refine FixBL.toL (fun w' w'' hS hb => hS.trans (hb.mono hS.size)) _ _ ?_
                  refine ⟨.inr ?_, .inr ?_, .inr ?_, .inr ?_, .inr ?_, .inr ?_, .inr ?_, .inr ?_, .inr ?_, .inr ?_, .inr ?_, .inr ?_, .inr ?_, .inr ?_, .inr ?_, .inr ?_, .inr ?_, .inr ?_, .inr ?_, .inr ?_, trivial⟩
                  · (with_reducible refine FixB.of ?_ ?_; rfl; intro w' hS; obtain ⟨s0, s1, s2, s3⟩ := HF.out _ hS; clear hS; unfold Oper.wp; go_simp; first | done | exact Below.refl _ _)
                  · (with_reducible refine FixB.of ?_ ?_; rfl; intro w' hS; obtain ⟨s0, s1, s2, s3⟩ := HF.out _ hS; clear hS; unfold Oper.wp; go_simp; first | done | exact Below.refl _ _)
                  · (with_reducible refine FixB.of ?_ ?_; rfl; intro w' hS; obtain ⟨s0, s1, s2, s3⟩ := HF.out _ hS; clear hS; unfold Oper.wp; go_simp; first | done | exact Below.refl _ _)
                  · (with_reducible refine FixB.of ?_ ?_; rfl; intro w' hS; obtain ⟨s0, s1, s2, s3⟩ := HF.out _ hS; clear hS; unfold Oper.wp; go_simp; first | done | exact Below.refl _ _)
                  · (with_reducible refine FixB.of ?_ ?_; rfl; intro w' hS; obtain ⟨s0, s1, s2, s3⟩ := HF.out _ hS; clear hS; unfold Oper.wp; go_simp; first | done | exact Below.refl _ _)
                  · (with_reducible refine FixB.of ?_ ?_; rfl; intro w' hS; obtain ⟨s0, s1, s2, s3⟩ := HF.out _ hS; clear hS; unfold Oper.wp; go_simp; first | done | exact Below.refl _ _)
                  · (with_reducible refine FixB.of ?_ ?_; rfl; intro w' hS; obtain ⟨s0, s1, s2, s3⟩ := HF.out _ hS; clear hS; unfold Oper.wp; go_simp; first | done | exact Below.refl _ _)
                  · (with_reducible refine FixB.of ?_ ?_; rfl; intro w' hS; obtain ⟨s0, s1, s2, s3⟩ := HF.out _ hS; clear hS; unfold Oper.wp; go_simp; first | done | exact Below.refl _ _)
                  · (with_reducible refine FixB.of ?_ ?_; rfl; intro w' hS; obtain ⟨s0, s1, s2, s3⟩ := HF.out _ hS; clear hS; unfold Oper.wp; go_simp; first | done | exact Below.refl _ _)
                  · (with_reducible refine FixB.of ?_ ?_; rfl; intro w' hS; obtain ⟨s0, s1, s2, s3⟩ := HF.out _ hS; clear hS; unfold Oper.wp; go_simp; first | done | exact Below.refl _ _)
                  · (refine FixB.on (by first | rfl | kernel_rfl | (simp [Region.wanted, yielded]; done)) ?_; intro w' hS; obtain ⟨s0, s1, s2, s3⟩ := HF.out _ hS; clear hS; unfold Oper.wp; go_simp; first | done | exact Below.refl _ _)
                  · (refine FixB.on (by first | rfl | kernel_rfl | (simp [Region.wanted, yielded]; done)) ?_; intro w' hS; obtain ⟨s0, s1, s2, s3⟩ := HF.out _ hS; clear hS; unfold Oper.wp; go_simp; first | done | exact Below.refl _ _)
                  · (refine FixB.on (by first | rfl | kernel_rfl | (simp [Region.wanted, yielded]; done)) ?_; intro w' hS; obtain ⟨s0, s1, s2, s3⟩ := HF.out _ hS; clear hS; unfold Oper.wp; go_simp; first | done | exact Below.refl _ _)
                  · (refine FixB.on (by first | rfl | kernel_rfl | (simp [Region.wanted, yielded]; done)) ?_; intro w' hS; obtain ⟨s0, s1, s2, s3⟩ := HF.out _ hS; clear hS; unfold Oper.wp; go_simp; first | done | exact Below.refl _ _)
                  · (refine FixB.on (by first | rfl | kernel_rfl | (simp [Region.wanted, yielded]; done)) ?_; intro w' hS; obtain ⟨s0, s1, s2, s3⟩ := HF.out _ hS; clear hS; unfold Oper.wp; go_simp; first | done | exact Below.refl _ _)
                  · (refine FixB.on (by first | rfl | kernel_rfl | (simp [Region.wanted, yielded]; done)) ?_; intro w' hS; obtain ⟨s0, s1, s2, s3⟩ := HF.out _ hS; clear hS; unfold Oper.wp; go_simp; first | done | exact Below.refl _ _)
                  · (refine FixB.on (by first | rfl | kernel_rfl | (simp [Region.wanted, yielded]; done)) ?_; intro w' hS; obtain ⟨s0, s1, s2, s3⟩ := HF.out _ hS; clear hS; unfold Oper.wp; go_simp; first | done | exact Below.refl _ _)
                  · (refine FixB.on (by first | rfl | kernel_rfl | (simp [Region.wanted, yielded]; done)) ?_; intro w' hS; obtain ⟨s0, s1, s2, s3⟩ := HF.out _ hS; clear hS; unfold Oper.wp; go_simp; first | done | exact Below.refl _ _)
                  · (refine FixB.on (by first | rfl | kernel_rfl | (simp [Region.wanted, yielded]; done)) ?_; intro w' hS; obtain ⟨s0, s1, s2, s3⟩ := HF.out _ hS; clear hS; unfold Oper.wp; go_simp; first | done | exact Below.refl _ _)
                  · (with_reducible refine FixB.of ?_ ?_; rfl; intro w' hS; obtain ⟨s0, s1, s2, s3⟩ := HF.out _ hS; clear hS; unfold Oper.wp; go_simp; first | done | exact Below.refl _ _)
                case hQ =>
                intro wc hS _
                have HB2 := Lib.hid hS
                clear hS
                have Hbq2 := Lib.hid (Hbq.out.trans (HB2.out.mono hsq))
                have x5 := RdI.at0 (Rd.more (Rd.below Ho4.out.rdA HB2.out) HB2.out.size) (k := m) (by rw [hnl]; exact hmq)
                clear hsw
                go_wp2_with fail
                go_roundw
                case rel => exact ⟨m + 1, by go_num, by omega, Hbq2.out, .inr ⟨m, hmq, rfl, Hn⟩⟩
                case measure => simp [intOf]; omega
              · have Hn : Hid (∀ t, t < m + 1 → pairQ xs ys t q = false) := nxt.out (by rw [Hpq.out, decide_eq_false h2, Bool.and_false])
                subst h1
                have h2b : (cc == dd) = false := by simpa using h2
                clear h2
                go_wp2_with fail
                refine wp_region_same [] rfl (by kernel_rfl) (by kernel_rfl) (by kernel_rfl) (fun w' => Below wr.heap.size wr w') _
                  [.slice (some ⟨b1, off1, none⟩) N c1, I m, .pointer (some ⟨b1, off1 + m, none⟩), I a, .slice (some ⟨b1, off1, none⟩) N c1, I q, .pointer (some ⟨b1, off1 + q, none⟩), I a, .bool true, .bool true, .slice (some ⟨b2, off2, none⟩) N c2, I m, .pointer (some ⟨b2, off2 + m, none⟩), I cc, .slice (some ⟨b2, off2, none⟩) N c2, I q, .pointer (some ⟨b2, off2 + q, none⟩), I dd, .bool false, .bool false]
                  (by simp only [putAll, List.setIfInBounds_toArray, List.set_cons_succ, List.set_cons_zero]; rfl) (Below.refl _ _).drew ?hop ?hQ
                case hop =>
                  refine FixBL.toL (fun w' w'' hS hb => hS.trans (hb.mono hS.size)) _ _ ?_
                  refine ⟨.inr ?_, .inr ?_, .inr ?_, .inr ?_, .inr ?_, .inr ?_, .inr ?_, .inr ?_, .inr ?_, .inr ?_, .inr ?_, .inr ?_, .inr ?_, .inr ?_, .inr ?_, .inr ?_, .inr ?_, .inr ?_, .inr ?_, .inr ?_, trivial⟩
                  · (with_reducible refine FixB.of ?_ ?_; rfl; intro w' hS; obtain ⟨s0, s1, s2, s3⟩ := HF.out _ hS; clear hS; unfold Oper.wp; go_simp; first | done | exact Below.refl _ _)
                  · (with_reducible refine FixB.of ?_ ?_; rfl; intro w' hS; obtain ⟨s0, s1, s2, s3⟩ := HF.out _ hS; clear hS; unfold Oper.wp; go_simp; first | done | exact Below.refl _ _)
                  · (with_reducible refine FixB.of ?_ ?_; rfl; intro w' hS; obtain ⟨s0, s1, s2, s3⟩ := HF.out _ hS; clear hS; unfold Oper.wp; go_simp; first | done | exact Below.refl _ _)
                  · (with_reducible refine FixB.of ?_ ?_; rfl; intro w' hS; obtain ⟨s0, s1, s2, s3⟩ := HF.out _ hS; clear hS; unfold Oper.wp; go_simp; first | done | exact Below.refl _ _)
                  · (with_reducible refine FixB.of ?_ ?_; rfl; intro w' hS; obtain ⟨s0, s1, s2, s3⟩ := HF.out _ hS; clear hS; unfold Oper.wp; go_simp; first | done | exact Below.refl _ _)
                  · (with_reducible refine FixB.of ?_ ?_; rfl; intro w' hS; obtain ⟨s0, s1, s2, s3⟩ := HF.out _ hS; clear hS; unfold Oper.wp; go_simp; first | done | exact Below.refl _ _)
                  · (with_reducible refine FixB.of ?_ ?_; rfl; intro w' hS; obtain ⟨s0, s1, s2, s3⟩ := HF.out _ hS; clear hS; unfold Oper.wp; go_simp; first | done | exact Below.refl _ _)
                  · (with_reducible refine FixB.of ?_ ?_; rfl; intro w' hS; obtain ⟨s0, s1, s2, s3⟩ := HF.out _ hS; clear hS; unfold Oper.wp; go_simp; first | done | exact Below.refl _ _)
                  · (with_reducible refine FixB.of ?_ ?_; rfl; intro w' hS; obtain ⟨s0, s1, s2, s3⟩ := HF.out _ hS; clear hS; unfold Oper.wp; go_simp; first | done | exact Below.refl _ _)
                  · (with_reducible refine FixB.of ?_ ?_; rfl; intro w' hS; obtain ⟨s0, s1, s2, s3⟩ := HF.out _ hS; clear hS; unfold Oper.wp; go_simp; first | done | exact Below.refl _ _)
                  · (refine FixB.on (by first | rfl | kernel_rfl | (simp [Region.wanted, yielded]; done)) ?_; intro w' hS; obtain ⟨s0, s1, s2, s3⟩ := HF.out _ hS; clear hS; unfold Oper.wp; go_simp; first | done | exact Below.refl _ _)
                  · (refine FixB.on (by first | rfl | kernel_rfl | (simp [Region.wanted, yielded]; done)) ?_; intro w' hS; obtain ⟨s0, s1, s2, s3⟩ := HF.out _ hS; clear hS; unfold Oper.wp; go_simp; first | done | exact Below.refl _ _)
                  · (refine FixB.on (by first | rfl | kernel_rfl | (simp [Region.wanted, yielded]; done)) ?_; intro w' hS; obtain ⟨s0, s1, s2, s3⟩ := HF.out _ hS; clear hS; unfold Oper.wp; go_simp; first | done | exact Below.refl _ _)
                  · (refine FixB.on (by first | rfl | kernel_rfl | (simp [Region.wanted, yielded]; done)) ?_; intro w' hS; obtain ⟨s0, s1, s2, s3⟩ := HF.out _ hS; clear hS; unfold Oper.wp; go_simp; first | done | exact Below.refl _ _)
                  · (refine FixB.on (by first | rfl | kernel_rfl | (simp [Region.wanted, yielded]; done)) ?_; intro w' hS; obtain ⟨s0, s1, s2, s3⟩ := HF.out _ hS; clear hS; unfold Oper.wp; go_simp; first | done | exact Below.refl _ _)
                  · (refine FixB.on (by first | rfl | kernel_rfl | (simp [Region.wanted, yielded]; done)) ?_; intro w' hS; obtain ⟨s0, s1, s2, s3⟩ := HF.out _ hS; clear hS; unfold Oper.wp; go_simp; first | done | exact Below.refl _ _)
                  · (refine FixB.on (by first | rfl | kernel_rfl | (simp [Region.wanted, yielded]; done)) ?_; intro w' hS; obtain ⟨s0, s1, s2, s3⟩ := HF.out _ hS; clear hS; unfold Oper.wp; go_simp; first | done | exact Below.refl _ _)
                  · (refine FixB.on (by first | rfl | kernel_rfl | (simp [Region.wanted, yielded]; done)) ?_; intro w' hS; obtain ⟨s0, s1, s2, s3⟩ := HF.out _ hS; clear hS; unfold Oper.wp; go_simp; first | done | exact Below.refl _ _)
                  · (refine FixB.on (by first | rfl | kernel_rfl | (simp [Region.wanted, yielded]; done)) ?_; intro w' hS; obtain ⟨s0, s1, s2, s3⟩ := HF.out _ hS; clear hS; unfold Oper.wp; go_simp; first | done | exact Below.refl _ _)
                  · (with_reducible refine FixB.of ?_ ?_; rfl; intro w' hS; obtain ⟨s0, s1, s2, s3⟩ := HF.out _ hS; clear hS; unfold Oper.wp; go_simp; first | done | exact Below.refl _ _)
                case hQ =>
                intro wc hS _
                have HB2 := Lib.hid hS
                clear hS
                have Hbq2 := Lib.hid (Hbq.out.trans (HB2.out.mono hsq))
                clear hsw
                go_wp2_with fail
                go_roundw
                case rel => exact ⟨m + 1, by go_num, by omega, Hbq2.out, .inl ⟨rfl, Hn⟩⟩
                case measure => simp [intOf]; omega
            · have Hn : Hid (∀ t, t < m + 1 → pairQ xs ys t q = false) := nxt.out (by rw [Hpq.out, decide_eq_false h1, Bool.false_and])
              have h1b : (a == b) = false := by simpa using h1
              clear h1
              go_wp2_with fail
              refine wp_region_same [] rfl (by kernel_rfl) (by kernel_rfl) (by kernel_rfl) (fun w' => Below wr.heap.size wr w') _
                [.slice (some ⟨b1, off1, none⟩) N c1, I m, .pointer (some ⟨b1, off1 + m, none⟩), I a, .slice (some ⟨b1, off1, none⟩) N c1, I q, .pointer (some ⟨b1, off1 + q, none⟩), I b, .bool false, .bool false, undef, undef, undef, undef, undef, undef, undef, undef, undef, .bool false]
                (by simp only [putAll, List.setIfInBounds_toArray, List.set_cons_succ, List.set_cons_zero]; rfl) (Below.refl _ _).drew ?hop ?hQ
              case hop =>
                refine FixBL.toL (fun w' w'' hS hb => hS.trans (hb.mono hS.size)) _ _ ?_
                refine ⟨.inr ?_, .inr ?_, .inr ?_, .inr ?_, .inr ?_, .inr ?_, .inr ?_, .inr ?_, .inr ?_, .inr ?_, .inr ?_, .inr ?_, .inr ?_, .inr ?_, .inr ?_, .inr ?_, .inr ?_, .inr ?_, .inr ?_, .inr ?_, trivial⟩
                · (with_reducible refine FixB.of ?_ ?_; rfl; intro w' hS; obtain ⟨s0, s1, s2, s3⟩ := HF.out _ hS; clear hS; unfold Oper.wp; go_simp; first | done | exact Below.refl _ _)
                · (with_reducible refine FixB.of ?_ ?_; rfl; intro w' hS; obtain ⟨s0, s1, s2, s3⟩ := HF.out _ hS; clear hS; unfold Oper.wp; go_simp; first | done | exact Below.refl _ _)
                · (with_reducible refine FixB.of ?_ ?_; rfl; intro w' hS; obtain ⟨s0, s1, s2, s3⟩ := HF.out _ hS; clear hS; unfold Oper.wp; go_simp; first | done | exact Below.refl _ _)
                · (with_reducible refine FixB.of ?_ ?_; rfl; intro w' hS; obtain ⟨s0, s1, s2, s3⟩ := HF.out _ hS; clear hS; unfold Oper.wp; go_simp; first | done | exact Below.refl _ _)
                · (with_reducible refine FixB.of ?_ ?_; rfl; intro w' hS; obtain ⟨s0, s1, s2, s3⟩ := HF.out _ hS; clear hS; unfold Oper.wp; go_simp; first | done | exact Below.refl _ _)
                · (with_reducible refine FixB.of ?_ ?_; rfl; intro w' hS; obtain ⟨s0, s1, s2, s3⟩ := HF.out _ hS; clear hS; unfold Oper.wp; go_simp; first | done | exact Below.refl _ _)
                · (with_reducible refine FixB.of ?_ ?_; rfl; intro w' hS; obtain ⟨s0, s1, s2, s3⟩ := HF.out _ hS; clear hS; unfold Oper.wp; go_simp; first | done | exact Below.refl _ _)
                · (with_reducible refine FixB.of ?_ ?_; rfl; intro w' hS; obtain ⟨s0, s1, s2, s3⟩ := HF.out _ hS; clear hS; unfold Oper.wp; go_simp; first | done | exact Below.refl _ _)
                · (with_reducible refine FixB.of ?_ ?_; rfl; intro w' hS; obtain ⟨s0, s1, s2, s3⟩ := HF.out _ hS; clear hS; unfold Oper.wp; go_simp; first | done | exact Below.refl _ _)
                · (with_reducible refine FixB.of ?_ ?_; rfl; intro w' hS; obtain ⟨s0, s1, s2, s3⟩ := HF.out _ hS; clear hS; unfold Oper.wp; go_simp; first | done | exact Below.refl _ _)
                · exact FixB.off (by first | rfl | kernel_rfl | (simp [Region.wanted, yielded]; done)) rfl
                · exact FixB.off (by first | rfl | kernel_rfl | (simp [Region.wanted, yielded]; done)) rfl
                · exact FixB.off (by first | rfl | kernel_rfl | (simp [Region.wanted, yielded]; done)) rfl
                · exact FixB.off (by first | rfl | kernel_rfl | (simp [Region.wanted, yielded]; done)) rfl
                · exact FixB.off (by first | rfl | kernel_rfl | (simp [Region.wanted, yielded]; done)) rfl
                · exact FixB.off (by first | rfl | kernel_rfl | (simp [Region.wanted, yielded]; done)) rfl
                · exact FixB.off (by first | rfl | kernel_rfl | (simp [Region.wanted, yielded]; done)) rfl
                · exact FixB.off (by first | rfl | kernel_rfl | (simp [Region.wanted, yielded]; done)) rfl
                · exact FixB.off (by first | rfl | kernel_rfl | (simp [Region.wanted, yielded]; done)) rfl
                · (with_reducible refine FixB.of ?_ ?_; rfl; intro w' hS; obtain ⟨s0, s1, s2, s3⟩ := HF.out _ hS; clear hS; unfold Oper.wp; go_simp; first | done | exact Below.refl _ _)
              case hQ =>
              intro wc hS _
              have HB2 := Lib.hid hS
              clear hS
              have Hbq2 := Lib.hid (Hbq.out.trans (HB2.out.mono hsq))
              clear hsw
              go_wp2_with fail
              go_roundw
              case rel => exact ⟨m + 1, by go_num, by omega, Hbq2.out, .inl ⟨rfl, Hn⟩⟩
              case measure => simp [intOf]; omega
          · obtain rfl : m = q := by omega
            have hmz : ¬ ((m : Int) < (m : Int)) := by omega
            have Hn : Hid (nm (pairQ xs ys) (m + 1) = ((nm (pairQ xs ys) m).1 ++ [(nm (pairQ xs ys) m).2], (nm (pairQ xs ys) m).2 + 1)) := nm_new hno.out
            have hwr : IntKind.i64.wrap ((nm (pairQ xs ys) m).2 + 1) = (nm (pairQ xs ys) m).2 + 1 := IntWalk.i64_in _ ⟨by omega, by omega⟩
            go_wp2_with (at_builtin; refine wpList_pushI rfl (.tmp 84) (.tmp 86) rfl w2.heap.size (.slice A3 m c3) (nm (pairQ xs ys) m).1 rfl (Ho4.out.alloc _) wr.heap.size 1 (nm (pairQ xs ys) m).2 rfl ((Blk.new _ _ _).cell 0) (by rw [hnl]; omega) (by simp; omega) (wr.heap.size + 1) (by simp) ?_; intro g' cap w4 ho' hgr hg' hlt'; have Hb4 := Lib.hid ((Ho4.out.alloc (.cells #[I (nm (pairQ xs ys) m).2] 2)).bel (Hbw.out.alloc (by omega) _) hgr (Nat.le_refl _) (by simp; omega)); have Ho5 := Lib.hid ho'; rw [hnl] at Ho5; clear ho' hgr hg' hlt')
            go_roundw
            case rel => exact ⟨m + 1, by go_num, by omega, by rw [Hn.out], Hb4.out, by rw [Hn.out]; exact Ho5.out⟩
            case measure => simp [intOf]; omega
        · have hval := nm_val (pairQ xs ys) q t htq
          obtain ⟨z, hz⟩ : ∃ z, z = gi (nm (pairQ xs ys) q).1 t := ⟨_, rfl⟩
          rw [← hz] at hval hnm ⊢
          clear hz
          have hz0 : ¬ (z < 0) := by omega
          clear hval
          rcases Decidable.em ((m : Int) < (q : Int)) with hmz | hmz
          all_goals
            go_wp2_with (at_builtin; refine wpList_pushI rfl (.tmp 84) (.tmp 86) rfl w2.heap.size (.slice A3 q c3) (nm (pairQ xs ys) q).1 rfl (Ho4.out.alloc _) wr.heap.size 1 z rfl ((Blk.new _ _ _).cell 0) (by rw [hnl]; omega) (by simp; omega) (wr.heap.size + 1) (by simp) ?_; intro g' cap w4 ho' hgr hg' hlt'; have Hb4 := Lib.hid ((Ho4.out.alloc (.cells #[I z] 2)).bel (Hbw.out.alloc (by omega) _) hgr (Nat.le_refl _) (by simp; omega)); have Ho5 := Lib.hid ho'; rw [hnl] at Ho5; clear ho' hgr hg' hlt')
            refine ⟨⟨q + 1, by go_num, by omega, by rw [hnm.out], Hb4.out, by rw [hnm.out]; exact Ho5.out⟩, by simp [intOf]; omega⟩
    · obtain rfl : q = N := by omega
      have hqz : ¬ ((q : Int) < (q : Int)) := by omega
      clear hnb
      go_wp2_with fail
      go_ret
      exact ⟨_, rfl, by rw [← HC.out, ← Hxs.out, ← Hys.out]; exact Ho3.out.mono (by have := Hb2.out.size; omega), Hb2.out.trans (Hb.out.mono (by have := Hb2.out.size; omega))⟩
end Go.Proofs.YtkbfocoaobiijaaGreat

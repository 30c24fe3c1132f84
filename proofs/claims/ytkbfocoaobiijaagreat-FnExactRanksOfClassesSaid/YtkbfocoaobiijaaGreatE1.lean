/- Contracts of the functions that look at lists of maps: growing, joining, the codes of lists; no conditions beyond those that each theorem states. -/
import Derived.Test.YtkbfocoaobiijaaGreatC4
import Derived.Test.YtkbfocoaobiijaaGreatSlM
import Derived.Lib.AppendZeros
import Derived.Laws.AppendOwnNone
import Derived.Deep.QuietTactic
import Derived.Test.YtkbfocoaobiijaaGreatReg
import Derived.BigQuiet
namespace Go.Proofs.YtkbfocoaobiijaaGreat
open Go.RowKit
set_option maxRecDepth 100000

theorem OwM.room {w : World} {B cap : Nat} {cs : Array Value} (hb : B ≤ w.heap.size) (hc : cs.size = cap * 6) (hm : cap ≤ maxLen) : OwM 31 (w.alloc (.cells cs 31)) B (.slice (some ⟨w.heap.size, 0, none⟩) 0 cap) [] :=
  ⟨by simp [mcs], .inr ⟨_, cap, cs, rfl, hb, heap_alloc_new w _, Nat.zero_le _, hm, hc, by simp [mcs]⟩⟩

theorem grow_any (n : Nat) (w : World) (hn : n < 2147483648) :
    Calls Tryz.prog 251 #[.slice none 0 0, .int .i64 n] w fun e w' => ∃ v, e = .returned v ∧ OwM 31 w' w.heap.size v [] ∧ Below w.heap.size w w' := by
  obtain ⟨i, hi, hz0, hz1, hz2⟩ := info_parts infoM
  by_cases h : 0 < n
  · have hr := fun w' : World => Lib.run_append_nil_zeros (P := Tryz.prog) w' 24 3 24 31 i (.agg (mc M0)) .i64 .i64 Tryz.underlying24 Tryz.underlying3 hi hz0 n h (by omega) (by omega) (by rw [hz2]; omega)
    have Hr := Lib.hid hr
    have hw0 : IntKind.i64.wrap ((n : Int) - 0) = n := IntWalk.i64_in _ ⟨by omega, by omega⟩
    clear hr
    go_enter Tryz.func251, Tryz.ntmps251
    go_wp2_with (at_builtin; refine Lib.wpList_append_run _ rfl (.tmp 20) (.tmp 21) 24 3 rfl _ _ rfl rfl _ _ (Hr.out _) ?_)
    go_ret
    exact ⟨_, rfl, OwM.room (w := w.drew) (Nat.le_refl _) (by simp [size_zeroCells]; have := grownCap_ge w n 0 31; omega) (grownCap_le_maxLen _ _ _ _ (by unfold maxLen; omega)), by (repeat (first | with_reducible assumption | with_reducible exact Below.refl _ _ | with_reducible refine Below.setCell ?_ (by first | omega | (simp <;> omega)) _ | with_reducible refine Below.alloc ?_ (by first | omega | (simp <;> omega)) _ | with_reducible refine Below.drew ?_ | with_reducible refine Below.drewN ?_ _))⟩
  · obtain rfl : n = 0 := by omega
    go_enter Tryz.func251, Tryz.ntmps251
    go_wp2
    go_ret
    exact ⟨_, rfl, OwM.nil_, Below.refl _ _⟩

/-- append of all maps of a slice -/
theorem wpList_catM {w : World} {ops : Array Oper} {rest : List Oper} {o : Oper} {a : Act} {Q : Exit → Act → World → Prop} (hgd : o.guard = none) (s x : Operand)
    (ho : o.op = .call { callee := .builtin .append, args := #[s, x], argTypes := #[24, 24] }) (B : Nat) (v : Value) (ms xs : List M) (hs : a.eval s = v) (hown : OwM 31 w B v ms)
    (A : Option Addr) (n c : Nat) (hx : a.eval x = .slice A n c) (hA : A = none → n = 0 ∧ c = 0) (hy : RdM w w.heap.size A xs) (hn : xs.length = n)
    (hb : ms.length + n < 1073741824) (hB : B ≤ w.heap.size)
    (h : ∀ v' w', OwM 31 w' B v' (ms ++ xs) → w.grownBy w' v.ownBlock → wpList Tryz.prog ops Q rest (a.put o.dst v') w') : wpList Tryz.prog ops Q (o :: rest) a w := by
  obtain ⟨i, hi, hz0, hz1, hz2⟩ := info_parts infoM
  subst hn
  cases A with
  | none =>
    obtain ⟨h0, rfl⟩ := hA rfl
    obtain rfl : xs = [] := List.eq_nil_of_length_eq_zero h0
    refine wpList_append_own_none hgd s x 24 ho B 31 i 6 Tryz.underlying24 hi v ms.length (mcs ms) hs hown hx ?_
    exact h v w (by rw [List.append_nil]; exact hown) (World.grownBy.refl w _)
  | some ad =>
    refine wpList_append_own w hgd s x 24 ho B 31 i (.agg (mc M0)) 6 48 Tryz.underlying24 hi hz0 hz1 hz2 rfl (by decide) v ms.length (mcs ms) hs hown ad xs.length c (mcs xs) hx (mcs_length _) ?_ mcs_one (by unfold maxLen; omega) (by omega) hB ?_
    · intro j u hj
      have hpos : 0 < xs.length := by
        rcases Nat.eq_zero_or_pos xs.length with h0 | h0
        · rw [List.eq_nil_of_length_eq_zero h0] at hj; simp [mcs] at hj
        · exact h0
      obtain ⟨b', off', e, _, hc⟩ := hy.2 hpos
      injection e with e
      subst e
      have := hc j u hj
      unfold Addr.add
      split
      · rename_i h0; subst h0; simpa using this
      · exact this
    · intro v' w' h1 h2 _
      refine h v' w' ?_ h2
      unfold OwM
      rw [mcs_app, List.length_append]
      exact h1

/-- the first k of two lists, joined -/
def catTo (ms xs : List M) : Nat → List M
  | 0 => []
  | 1 => ms
  | _ => ms ++ xs
theorem concat_any (g c : Nat) (A1 A2 : Option Addr) (n1 c1 n2 c2 : Nat) (ms xs : List M) (w : World) (g0 : w.cell? ⟨g, 0, none⟩ = some (.slice A1 n1 c1)) (g1 : w.cell? ⟨g, 1, none⟩ = some (.slice A2 n2 c2))
    (hx : RdM w w.heap.size A1 ms) (hy : RdM w w.heap.size A2 xs) (hn : ms.length = n1) (hm : xs.length = n2) (hA1 : A1 = none → n1 = 0 ∧ c1 = 0) (hA2 : A2 = none → n2 = 0 ∧ c2 = 0) (hb : n1 + n2 < 1073741824) :
    Calls Tryz.prog 230 #[.slice (some ⟨g, 0, none⟩) 2 c] w fun e w' => ∃ v, e = .returned v ∧ OwM 31 w' w.heap.size v (ms ++ xs) ∧ Below w.heap.size w w' := by
  have Hx := Lib.hid hx
  have Hy := Lib.hid hy
  have Hn := Lib.hid hn
  have Hm := Lib.hid hm
  have HA1 := Lib.hid hA1
  have HA2 := Lib.hid hA2
  have hgl : g < w.heap.size := World.block_lt_of_cell? w ⟨g, 0, none⟩ g0
  clear hx hy hn hm hA1 hA2
  go_enter Tryz.func230, Tryz.ntmps230
  go_wp2
  go_loop [3, 11] (fun s i => (s = .int .i64 0 ∧ i = .int .i64 0) ∨ (s = .int .i64 n1 ∧ i = .int .i64 1) ∨ (s = .int .i64 ((n1 + n2 : Nat) : Int) ∧ i = .int .i64 2)) (fun _ i => 2 - (intOf i).toNat)
  case atStart => exact .inl ⟨rfl, rfl⟩
  case round =>
    rcases hrel with ⟨rfl, rfl⟩ | ⟨rfl, rfl⟩ | ⟨rfl, rfl⟩
    · go_wp2
      go_round
      case rel => exact .inr (.inl ⟨by go_num, by go_num⟩)
      case measure => simp [intOf]
    · go_wp2
      go_round
      case rel => exact .inr (.inr ⟨by go_num, by go_num⟩)
      case measure => simp [intOf]
    · go_wp2_with fail
      refine (grow_any (n1 + n2) _ (by omega)).mono ?_
      rintro e w1 ⟨v, rfl, ho, hb1⟩
      go_wp2_with fail
      go_loopw [6, 27] (fun v i wr => ∃ k : Nat, k ≤ 2 ∧ i = .int .i64 k ∧ OwM 31 wr w.heap.size v (catTo ms xs k) ∧ Below w.heap.size w wr) (fun _ i _ => 2 - (intOf i).toNat)
      case atStart => exact ⟨0, by omega, rfl, ho, hb1⟩
      case round =>
        clear ho hb1
        obtain ⟨k, hk, rfl, ho, hbel⟩ := hrel
        have d0 := (hbel.cell (p := ⟨g, 0, none⟩) hgl).trans g0
        have d1 := (hbel.cell (p := ⟨g, 1, none⟩) hgl).trans g1
        match k, hk with
        | 0, _ =>
          go_wp2_with (at_builtin; refine wpList_catM rfl (.tmp 31) (.tmp 32) rfl w.heap.size _ [] ms rfl ho A1 n1 c1 rfl HA1.out (Rd.more (Rd.below Hx.out hbel) hbel.size) Hn.out (by simp; omega) hbel.size ?_; intro v' w4 ho' hgr)
          go_roundw
          case rel => exact ⟨1, by omega, by go_num, ho', ho.bel hbel hgr (Nat.le_refl _) hbel.size⟩
          case measure => simp [intOf]
        | 1, _ =>
          go_wp2_with (at_builtin; refine wpList_catM rfl (.tmp 31) (.tmp 32) rfl w.heap.size _ ms xs rfl ho A2 n2 c2 rfl HA2.out (Rd.more (Rd.below Hy.out hbel) hbel.size) Hm.out (by rw [Hn.out]; omega) hbel.size ?_; intro v' w4 ho' hgr)
          go_roundw
          case rel => exact ⟨2, by omega, by go_num, ho', ho.bel hbel hgr (Nat.le_refl _) hbel.size⟩
          case measure => simp [intOf]
        | 2, _ =>
          go_wp2
          go_ret
          exact ⟨_, rfl, ho, hbel⟩

/-! ### the code of a list -/
theorem all_gm {p : M → Bool} {l : List M} : l.all p = true ↔ ∀ j, j < l.length → p (gm l j) = true := by
  rw [List.all_eq_true]
  constructor
  · intro h j hj; rw [gm_eq hj]; exact h _ (List.getElem_mem hj)
  · intro h x hx
    obtain ⟨j, hj, rfl⟩ := List.getElem_of_mem hx
    have := h j hj
    rwa [gm_eq hj] at this
theorem all_gm_false {p : M → Bool} {l : List M} {j : Nat} (hj : j < l.length) (h : p (gm l j) = false) : l.all p = false := by
  rw [Bool.eq_false_iff]; intro ht; have := all_gm.1 ht j hj; rw [h] at this; cases this
def sameP (ms : List M) (f : M) : Bool := decide (f.p = (gm ms 0).p)
/-- the code of a list and maps beside it -/
def codeL (ms xs : List M) : Int := if (ms ++ xs).all isMap then (if inR ms.length 1 6 && (ms ++ xs).all (sameP ms) then 0 else 2) else 1
theorem codeL_inv {ms xs : List M} (h : (ms ++ xs).all isMap = false) : codeL ms xs = 1 := by simp [codeL, h]
theorem codeL_len {ms xs : List M} (h : (ms ++ xs).all isMap = true) (hl : inR ms.length 1 6 = false) : codeL ms xs = 2 := by simp [codeL, h, hl]
theorem codeL_p {ms xs : List M} (h : (ms ++ xs).all isMap = true) (hp : (ms ++ xs).all (sameP ms) = false) : codeL ms xs = 2 := by simp [codeL, h, hp]
theorem codeL_ok {ms xs : List M} (h : (ms ++ xs).all isMap = true) (hl : inR ms.length 1 6 = true) (hp : (ms ++ xs).all (sameP ms) = true) : codeL ms xs = 0 := by simp [codeL, h, hl, hp]
theorem codeL_zero {ms xs : List M} : codeL ms xs = 0 ↔ (ms ++ xs).all isMap = true ∧ inR ms.length 1 6 = true ∧ (ms ++ xs).all (sameP ms) = true := by
  unfold codeL
  cases (ms ++ xs).all isMap <;> cases inR ms.length 1 6 <;> cases (ms ++ xs).all (sameP ms) <;> simp

theorem listCode_any (A1 A2 : Option Addr) (n1 c1 n2 c2 : Nat) (ms xs : List M) (w : World) (hx : RdM w w.heap.size A1 ms) (hy : RdM w w.heap.size A2 xs) (hn : ms.length = n1) (hm : xs.length = n2)
    (hA1 : A1 = none → n1 = 0 ∧ c1 = 0) (hA2 : A2 = none → n2 = 0 ∧ c2 = 0) (hb : n1 + n2 < 1073741824) :
    Calls Tryz.prog 153 #[.slice A1 n1 c1, .slice A2 n2 c2] w fun e w' => e = .returned (I (codeL ms xs)) ∧ Below w.heap.size w w' := by
  have Hx := Lib.hid hx
  have Hy := Lib.hid hy
  have Hn := Lib.hid hn
  have Hm := Lib.hid hm
  have HA1 := Lib.hid hA1
  have HA2 := Lib.hid hA2
  obtain ⟨N, hN⟩ : ∃ N, N = n1 + n2 := ⟨_, rfl⟩
  have HL : Hid ((ms ++ xs).length = N) := by show _ = _; rw [List.length_append, Hn.out, Hm.out, hN]
  have hNb : N < 1073741824 := by omega
  clear hx hy hn hm hA1 hA2
  go_enter Tryz.func153, Tryz.ntmps153
  go_wp2_with fail
  refine (concat_any w.heap.size 2 A1 A2 n1 c1 n2 c2 ms xs _ ((Blk.new _ _ _).cell 0) ((Blk.new _ _ _).cell 1) (Rd.more (Rd.alloc Hx.out (Nat.le_refl _) _) (by simp)) (Rd.more (Rd.alloc Hy.out (Nat.le_refl _) _) (by simp)) Hn.out Hm.out HA1.out HA2.out hb).mono ?_
  rintro e w1 ⟨v, rfl, ho, hb1⟩
  obtain ⟨A, c, hv, hr⟩ := ho.form
  rw [HL.out] at hv
  subst hv
  have hbel : Below w.heap.size w w1 := Below.trans (by (repeat (first | with_reducible assumption | with_reducible exact Below.refl _ _ | with_reducible refine Below.setCell ?_ (by first | omega | (simp <;> omega)) _ | with_reducible refine Below.alloc ?_ (by first | omega | (simp <;> omega)) _ | with_reducible refine Below.drew ?_ | with_reducible refine Below.drewN ?_ _))) (hb1.mono (by simp))
  have Hr := Lib.hid hr
  clear ho hb1 hr
  go_wp2_with fail
  go_loopw [14] (fun i wr => ∃ k : Nat, k ≤ N ∧ i = .int .i64 k ∧ Hid (∀ j, j < k → isMap (gm (ms ++ xs) j) = true) ∧ Below w1.heap.size w1 wr) (fun i _ => N - (intOf i).toNat)
  case atStart => exact ⟨0, by omega, rfl, fun j hj => absurd hj (by omega), Below.refl _ _⟩
  case round =>
    obtain ⟨k, hk, rfl, hg, hbl⟩ := hrel
    by_cases hlt : k < N
    · obtain ⟨b, off, rfl, hbb, c0, c1, c2, c3, c4, c5⟩ := RdM.at_ (Rd.below Hr.out hbl) (k := k) (by rw [HL.out]; exact hlt)
      have hwz := hbl.size
      cases hi : isMap (gm (ms ++ xs) k)
      · have Hc : Hid (codeL ms xs = 1) := codeL_inv (all_gm_false (by rw [HL.out]; exact hlt) hi)
        go_wp2_with fail
        refine (isMap_any _ _).mono ?_
        rintro e w2 ⟨rfl, hb2⟩
        rw [hi]
        have hb0 := hbel.trans (hbl.mono hbel.size)
        have hbz : Below w.heap.size w w2 := (hb0.alloc hb0.size _).trans (hb2.mono (by simp; have := hb0.size; omega))
        clear hb2
        go_wp2
        go_ret
        exact ⟨ret_int Hc.out.symm, hbz⟩
      · have Hs : Hid (∀ j, j < k + 1 → isMap (gm (ms ++ xs) j) = true) := by
          intro j hj
          by_cases e : j = k
          · subst e; exact hi
          · exact hg.out j (by omega)
        go_wp2_with fail
        refine (isMap_any _ _).mono ?_
        rintro e w2 ⟨rfl, hb2⟩
        rw [hi]
        have hbz : Below w1.heap.size w1 w2 := (hbl.alloc hwz _).trans (hb2.mono (by simp; omega))
        clear hb2
        go_wp2
        go_roundw
        case rel => exact ⟨k + 1, by omega, by go_num, Hs.out, hbz⟩
        case measure => simp [intOf]; omega
    · obtain rfl : k = N := by omega
      have Hall : Hid ((ms ++ xs).all isMap = true) := all_gm.2 fun j hj => hg.out j (by rw [HL.out] at hj; exact hj)
      replace hbel := hbel.trans (hbl.mono hbel.size)
      have HX : Hid (RdM wr w.heap.size A1 ms) := Rd.below Hx.out hbel
      have HY : Hid (RdM wr w.heap.size A2 xs) := Rd.below Hy.out hbel
      clear hbl hg Hr
      have Hq := Lib.hid (within_any n1 1 6 wr)
      cases hin : inR n1 1 6
      · have Hc : Hid (codeL ms xs = 2) := codeL_len Hall.out (by rw [Hn.out]; exact hin)
        go_wp2_with fail
        refine (within_any _ _ _ _).mono ?_
        rintro e w2 ⟨rfl, rfl⟩
        rw [hin]
        go_wp2
        go_ret
        exact ⟨ret_int Hc.out.symm, hbel⟩
      · have hn1 := inR_true.1 hin
        have hwz := hbel.size
        go_wp2_with fail
        refine (within_any _ _ _ _).mono ?_
        rintro e w2 ⟨rfl, rfl⟩
        rw [hin]
        go_wp2_with fail
        refine (concat_any wr.heap.size 2 A1 A2 n1 c1 n2 c2 ms xs _ ((Blk.new _ _ _).cell 0) ((Blk.new _ _ _).cell 1) (Rd.more (Rd.alloc HX.out hwz _) (by simp; omega)) (Rd.more (Rd.alloc HY.out hwz _) (by simp; omega)) Hn.out Hm.out HA1.out HA2.out hb).mono ?_
        rintro e w2 ⟨v, rfl, ho, hb1⟩
        obtain ⟨A', c', hv, hr⟩ := ho.form
        rw [HL.out] at hv
        subst hv
        have hbel2 : Below w.heap.size w w2 := (hbel.alloc hwz _).trans (hb1.mono (by simp; omega))
        have Hr := Lib.hid hr
        have HX2 : Hid (RdM w2 w.heap.size A1 ms) := Rd.below Hx.out hbel2
        have hw2 := hbel2.size
        clear ho hb1 hr hbel HX HY
        go_wp2_with fail
        go_loopw [31] (fun i wr => ∃ j : Nat, j ≤ k ∧ i = .int .i64 j ∧ Hid (∀ i, i < j → sameP ms (gm (ms ++ xs) i) = true) ∧ Below w2.heap.size w2 wr) (fun i _ => k - (intOf i).toNat)
        case atStart => exact ⟨0, by omega, rfl, fun j hj => absurd hj (by omega), Below.refl _ _⟩
        case round =>
          obtain ⟨j, hj, rfl, hg, hbl⟩ := hrel
          by_cases hlt : j < k
          · obtain ⟨b, off, rfl, hbb, c0, c1, c2, c3, c4, c5⟩ := RdM.at_ (Rd.below Hr.out hbl) (k := j) (by rw [HL.out]; exact hlt)
            obtain ⟨b1, off1, rfl, hbb1, d0, _⟩ := RdM.at_ (Rd.below' HX2.out hbl hw2) (k := 0) (by rw [Hn.out]; omega)
            have hwz := hbl.size
            have hpos : (0 : Int) < (n1 : Int) := by omega
            have hpos' : 0 < n1 := by omega
            have d1 := d0
            simp only [Nat.zero_mul, Nat.add_zero] at d1
            clear d0
            have hb1r : b1 < wr.heap.size := by omega
            have hb1n : b1 ≠ wr.heap.size := by omega
            cases hp : ((gm (ms ++ xs) j).p != (gm ms 0).p)
            · have Hs : Hid (∀ i, i < j + 1 → sameP ms (gm (ms ++ xs) i) = true) := by
                intro i hi
                by_cases e : i = j
                · subst e; simpa [sameP] using hp
                · exact hg.out i (by omega)
              go_wp2_with fail
              go_quiet (fail)
              go_wp2
              go_roundw
              case rel => exact ⟨j + 1, by omega, by go_num, Hs.out, (hbl.alloc hwz _).drewN _⟩
              case measure => simp [intOf]; omega
            · have Hc : Hid (codeL ms xs = 2) := codeL_p Hall.out (all_gm_false (j := j) (by rw [HL.out]; exact hlt) (by
                rw [sameP, decide_eq_false_iff_not]
                simpa using hp))
              go_wp2_with fail
              go_quiet (fail)
              go_wp2
              go_ret
              exact ⟨ret_int Hc.out.symm, hbel2.trans (((hbl.alloc hwz _).drewN _).mono hw2)⟩
          · obtain rfl : j = k := by omega
            have Hc : Hid (codeL ms xs = 0) := codeL_ok Hall.out (by rw [Hn.out]; exact hin) (all_gm.2 fun i hi => hg.out i (by rw [HL.out] at hi; exact hi))
            go_wp2
            go_ret
            exact ⟨ret_int Hc.out.symm, hbel2.trans (hbl.mono hw2)⟩

/-! ### the reference's code of a list -/
def same6 (ms : List M) : Bool := inR ms.length 1 6 && ms.all fun f => isMap f && sameP ms f
theorem same6_len {ms : List M} (h : inR ms.length 1 6 = false) : same6 ms = false := by simp [same6, h]
theorem same6_no {ms : List M} {j : Nat} (hj : j < ms.length) (h : (isMap (gm ms j) && sameP ms (gm ms j)) = false) : same6 ms = false := by
  unfold same6
  rw [all_gm_false (p := fun f => isMap f && sameP ms f) hj h, Bool.and_false]
theorem same6_yes {ms : List M} (h : inR ms.length 1 6 = true) (ha : ∀ j, j < ms.length → (isMap (gm ms j) && sameP ms (gm ms j)) = true) : same6 ms = true := by
  unfold same6
  rw [h, Bool.true_and, all_gm]
  exact ha
theorem codeL_1 {ms xs : List M} (h : ms.all isMap = false) : codeL ms xs = 1 := codeL_inv (by rw [List.all_append, h, Bool.false_and])
theorem codeL_2 {ms xs : List M} (h : xs.all isMap = false) : codeL ms xs = 1 := codeL_inv (by rw [List.all_append, h, Bool.and_false])
theorem codeL_3 {ms xs : List M} (h1 : ms.all isMap = true) (h2 : xs.all isMap = true) (h : same6 ms = false) : codeL ms xs = 2 := by
  have h3 : (ms ++ xs).all isMap = true := by rw [List.all_append, h1, h2]; rfl
  cases hl : inR ms.length 1 6
  · exact codeL_len h3 hl
  · refine codeL_p h3 ?_
    rw [same6, hl, Bool.true_and] at h
    rw [List.all_append, Bool.and_eq_false_iff]; left
    rw [List.all_eq_false] at h ⊢
    obtain ⟨x, hx, hn⟩ := h
    refine ⟨x, hx, fun hs => hn ?_⟩
    rw [hs, List.all_eq_true.1 h1 x hx]; rfl
theorem same6_iff {ms : List M} (h : same6 ms = true) : inR ms.length 1 6 = true ∧ ms.all (sameP ms) = true := by
  rw [same6, Bool.and_eq_true] at h
  refine ⟨h.1, ?_⟩
  rw [List.all_eq_true] at h ⊢
  intro x hx
  have := h.2 x hx
  rw [Bool.and_eq_true] at this
  exact this.2
theorem codeL_4 {ms xs : List M} (h1 : ms.all isMap = true) (h2 : xs.all isMap = true) (h : xs.all (sameP ms) = false) : codeL ms xs = 2 :=
  codeL_p (by rw [List.all_append, h1, h2]; rfl) (by rw [List.all_append, h, Bool.and_false])
theorem codeL_5 {ms xs : List M} (h1 : ms.all isMap = true) (h2 : xs.all isMap = true) (h3 : same6 ms = true) (h : xs.all (sameP ms) = true) : codeL ms xs = 0 :=
  codeL_ok (by rw [List.all_append, h1, h2]; rfl) (same6_iff h3).1 (by rw [List.all_append, (same6_iff h3).2, h]; rfl)

theorem l01Is_at {f : M} {b : Bool} (h : isMap f = b) (w : World) : Calls Tryz.prog 179 #[.agg (mc f)] w fun e w' => e = .returned (.bool b) ∧ Below w.heap.size w w' := by
  rw [← h]; exact l01Is_any f w

theorem l01Same_any (A : Option Addr) (n c : Nat) (ms : List M) (w : World) (hx : RdM w w.heap.size A ms) (hn : ms.length = n) (hb : n < 1073741824) :
    Calls Tryz.prog 233 #[.slice A n c] w fun e w' => e = .returned (.bool (same6 ms)) ∧ Below w.heap.size w w' := by
  have Hx := Lib.hid hx
  have Hn := Lib.hid hn
  clear hx hn
  by_cases h1 : 1 ≤ n
  · by_cases h6 : n ≤ 6
    · have hin : Hid (inR ms.length 1 6 = true) := by show _ = _; rw [Hn.out, inR_true]; omega
      go_enter Tryz.func233, Tryz.ntmps233
      go_wp2
      go_loopw [3] (fun i wr => ∃ k : Nat, k ≤ n ∧ i = .int .i64 k ∧ Hid (∀ j, j < k → (isMap (gm ms j) && sameP ms (gm ms j)) = true) ∧ RdM wr w.heap.size A ms ∧ Below w.heap.size w wr) (fun i _ => n - (intOf i).toNat)
      case atStart => exact ⟨0, by omega, rfl, fun j hj => absurd hj (by omega), Hx.out, Below.refl _ _⟩
      case round =>
        obtain ⟨k, hk, rfl, hg, hr, hbel⟩ := hrel
        by_cases hlt : k < n
        · obtain ⟨b, off, rfl, hbb, s1⟩ := hr.at_ (k := k) (by rw [Hn.out]; exact hlt)
          obtain ⟨b', off', he, _, s2⟩ := hr.at_ (k := 0) (by rw [Hn.out]; omega)
          injection he with he
          injection he with e1 e2 _
          subst e1 e2
          have h0 : (0 : Int) ≤ (k : Int) := by omega
          have hk1 : (k : Int) < (n : Int) := by omega
          have hpos : (0 : Int) < (n : Int) := by omega
          have hpos' : 0 < n := by omega
          have s3 := s2.1
          simp only [Nat.zero_mul, Nat.add_zero] at s3
          have HS : Hid (SixAt wr.drew b (off + k * 6) (gm ms k) ∧ wr.drew.cell? ⟨b, off, none⟩ = some (I (gm ms 0).p) ∧ RdM wr.drew w.heap.size (some ⟨b, off, none⟩) ms ∧ Below w.heap.size w wr.drew) := ⟨s1, s3, hr, hbel.drew⟩
          have hsz := hbel.size
          clear hr hbel s1 s2 s3
          cases hi : isMap (gm ms k)
          · have Hr : Hid (same6 ms = false) := same6_no (j := k) (by rw [Hn.out]; exact hlt) (by rw [hi]; rfl)
            go_wp2_with fail
            refine wp_region_same [] rfl (by kernel_rfl) (by kernel_rfl) (by kernel_rfl) (fun w' => SixAt w' b (off + k * 6) (gm ms k) ∧ w'.cell? ⟨b, off, none⟩ = some (I (gm ms 0).p) ∧ RdM w' w.heap.size (some ⟨b, off, none⟩) ms ∧ Below w.heap.size w w') _
              [.slice (some ⟨b, off, none⟩) n c, I k, .pointer (some ⟨b, off + k * 6, none⟩), .agg (mc (gm ms k)), .bool false, .bool true, .bool true, undef, undef, undef, undef, undef, undef, undef, undef, undef, undef, .bool true]
              (by simp only [putAll, List.setIfInBounds_toArray, List.set_cons_succ, List.set_cons_zero]; rfl) HS.out ?hop ?hQ
            case hop =>
              refine FixBL.toL (fun w' w'' hS hb => ⟨hS.1.below hb hS.1.lt, (hb.cell (p := ⟨b, off, none⟩) (show b < w'.heap.size by have := hS.2.2.2.size; omega)).trans hS.2.1, Rd.below' hS.2.2.1 hb hS.2.2.2.size, hS.2.2.2.trans (hb.mono hS.2.2.2.size)⟩) _ _ ?_
              refine ⟨.inr ?_, .inr ?_, .inr ?_, .inr ?_, .inr ?_, .inr ?_, .inr ?_, .inr ?_, .inr ?_, .inr ?_, .inr ?_, .inr ?_, .inr ?_, .inr ?_, .inr ?_, .inr ?_, .inr ?_, .inr ?_, trivial⟩
              · (with_reducible refine FixB.of ?_ ?_; rfl; intro w' hS; have s0 := hS.1; clear hS; unfold Oper.wp; go_simp; first | done | exact Below.refl _ _)
              · (with_reducible refine FixB.of ?_ ?_; rfl; intro w' hS; have s0 := hS.1; clear hS; unfold Oper.wp; go_simp; first | done | exact Below.refl _ _)
              · (with_reducible refine FixB.of ?_ ?_; rfl; intro w' hS; have s0 := hS.1; clear hS; unfold Oper.wp; go_simp; first | done | exact Below.refl _ _)
              · (with_reducible refine FixB.of ?_ ?_; rfl; intro w' hS; have s0 := hS.1; clear hS; unfold Oper.wp; go_simp; first | done | exact Below.refl _ _)
              · (with_reducible refine FixB.of ?_ ?_; rfl; intro w' hS; have s3 := Lib.hid hS; unfold Oper.wp; clear hS; go_simp; refine (l01Is_at hi _).mono ?_; rintro e w1 ⟨rfl, hb⟩; exact ⟨rfl, hb⟩)
              · (with_reducible refine FixB.of ?_ ?_; rfl; intro w' hS; have s0 := hS.1; clear hS; unfold Oper.wp; go_simp; first | done | exact Below.refl _ _)
              · (with_reducible refine FixB.of ?_ ?_; rfl; intro w' hS; have s0 := hS.1; clear hS; unfold Oper.wp; go_simp; first | done | exact Below.refl _ _)
              · exact FixB.off (by first | rfl | kernel_rfl | (simp [Region.wanted, yielded]; done)) rfl
              · exact FixB.off (by first | rfl | kernel_rfl | (simp [Region.wanted, yielded]; done)) rfl
              · exact FixB.off (by first | rfl | kernel_rfl | (simp [Region.wanted, yielded]; done)) rfl
              · exact FixB.off (by first | rfl | kernel_rfl | (simp [Region.wanted, yielded]; done)) rfl
              · exact FixB.off (by first | rfl | kernel_rfl | (simp [Region.wanted, yielded]; done)) rfl
              · exact FixB.off (by first | rfl | kernel_rfl | (simp [Region.wanted, yielded]; done)) rfl
              · exact FixB.off (by first | rfl | kernel_rfl | (simp [Region.wanted, yielded]; done)) rfl
              · exact FixB.off (by first | rfl | kernel_rfl | (simp [Region.wanted, yielded]; done)) rfl
              · exact FixB.off (by first | rfl | kernel_rfl | (simp [Region.wanted, yielded]; done)) rfl
              · exact FixB.off (by first | rfl | kernel_rfl | (simp [Region.wanted, yielded]; done)) rfl
              · (with_reducible refine FixB.of ?_ ?_; rfl; intro w' hS; have s0 := hS.1; clear hS; unfold Oper.wp; go_simp; first | done | exact Below.refl _ _)
            case hQ =>
              intro w' hS _
              have Hb := Lib.hid hS.2.2.2
              clear hS HS
              go_wp2
              go_ret
              exact ⟨ret_bool Hr.out.symm, Hb.out⟩
          · cases hp : ((gm ms k).p != (gm ms 0).p)
            · have Hs : Hid (∀ j, j < k + 1 → (isMap (gm ms j) && sameP ms (gm ms j)) = true) := by
                intro j hj
                by_cases e : j = k
                · subst e
                  rw [hi, Bool.true_and]
                  simpa [sameP] using hp
                · exact hg.out j (by omega)
              go_wp2_with fail
              refine wp_region_same [] rfl (by kernel_rfl) (by kernel_rfl) (by kernel_rfl) (fun w' => SixAt w' b (off + k * 6) (gm ms k) ∧ w'.cell? ⟨b, off, none⟩ = some (I (gm ms 0).p) ∧ RdM w' w.heap.size (some ⟨b, off, none⟩) ms ∧ Below w.heap.size w w') _
                [.slice (some ⟨b, off, none⟩) n c, I k, .pointer (some ⟨b, off + k * 6, none⟩), .agg (mc (gm ms k)), .bool true, .bool false, .bool false, .slice (some ⟨b, off, none⟩) n c, I k, .pointer (some ⟨b, off + k * 6, none⟩), .pointer (some ⟨b, off + k * 6, none⟩), I (gm ms k).p, .slice (some ⟨b, off, none⟩) n c, .pointer (some ⟨b, off, none⟩), .pointer (some ⟨b, off, none⟩), I (gm ms 0).p, .bool false, .bool false]
                (by simp only [putAll, List.setIfInBounds_toArray, List.set_cons_succ, List.set_cons_zero]; rfl) HS.out ?hop ?hQ
              case hop =>
                refine FixBL.toL (fun w' w'' hS hb => ⟨hS.1.below hb hS.1.lt, (hb.cell (p := ⟨b, off, none⟩) (show b < w'.heap.size by have := hS.2.2.2.size; omega)).trans hS.2.1, Rd.below' hS.2.2.1 hb hS.2.2.2.size, hS.2.2.2.trans (hb.mono hS.2.2.2.size)⟩) _ _ ?_
                refine ⟨.inr ?_, .inr ?_, .inr ?_, .inr ?_, .inr ?_, .inr ?_, .inr ?_, .inr ?_, .inr ?_, .inr ?_, .inr ?_, .inr ?_, .inr ?_, .inr ?_, .inr ?_, .inr ?_, .inr ?_, .inr ?_, trivial⟩
                · (with_reducible refine FixB.of ?_ ?_; rfl; intro w' hS; have s0 := hS.1; have s1 := hS.2.1; clear hS; unfold Oper.wp; go_simp; first | done | exact Below.refl _ _)
                · (with_reducible refine FixB.of ?_ ?_; rfl; intro w' hS; have s0 := hS.1; have s1 := hS.2.1; clear hS; unfold Oper.wp; go_simp; first | done | exact Below.refl _ _)
                · (with_reducible refine FixB.of ?_ ?_; rfl; intro w' hS; have s0 := hS.1; have s1 := hS.2.1; clear hS; unfold Oper.wp; go_simp; first | done | exact Below.refl _ _)
                · (with_reducible refine FixB.of ?_ ?_; rfl; intro w' hS; have s0 := hS.1; have s1 := hS.2.1; clear hS; unfold Oper.wp; go_simp; first | done | exact Below.refl _ _)
                · (with_reducible refine FixB.of ?_ ?_; rfl; intro w' hS; have s3 := Lib.hid hS; unfold Oper.wp; clear hS; go_simp; refine (l01Is_at hi _).mono ?_; rintro e w1 ⟨rfl, hb⟩; exact ⟨rfl, hb⟩)
                · (with_reducible refine FixB.of ?_ ?_; rfl; intro w' hS; have s0 := hS.1; have s1 := hS.2.1; clear hS; unfold Oper.wp; go_simp; first | done | exact Below.refl _ _)
                · (with_reducible refine FixB.of ?_ ?_; rfl; intro w' hS; have s0 := hS.1; have s1 := hS.2.1; clear hS; unfold Oper.wp; go_simp; first | done | exact Below.refl _ _)
                · (refine FixB.on (by first | rfl | kernel_rfl | (simp [Region.wanted, yielded]; done)) ?_; intro w' hS; have s0 := hS.1; have s1 := hS.2.1; clear hS; unfold Oper.wp; go_simp; first | done | exact Below.refl _ _)
                · (refine FixB.on (by first | rfl | kernel_rfl | (simp [Region.wanted, yielded]; done)) ?_; intro w' hS; have s0 := hS.1; have s1 := hS.2.1; clear hS; unfold Oper.wp; go_simp; first | done | exact Below.refl _ _)
                · (refine FixB.on (by first | rfl | kernel_rfl | (simp [Region.wanted, yielded]; done)) ?_; intro w' hS; have s0 := hS.1; have s1 := hS.2.1; clear hS; unfold Oper.wp; go_simp; first | done | exact Below.refl _ _)
                · (refine FixB.on (by first | rfl | kernel_rfl | (simp [Region.wanted, yielded]; done)) ?_; intro w' hS; have s0 := hS.1; have s1 := hS.2.1; clear hS; unfold Oper.wp; go_simp; first | done | exact Below.refl _ _)
                · (refine FixB.on (by first | rfl | kernel_rfl | (simp [Region.wanted, yielded]; done)) ?_; intro w' hS; have s0 := hS.1; have s1 := hS.2.1; clear hS; unfold Oper.wp; go_simp; first | done | exact Below.refl _ _)
                · (refine FixB.on (by first | rfl | kernel_rfl | (simp [Region.wanted, yielded]; done)) ?_; intro w' hS; have s0 := hS.1; have s1 := hS.2.1; clear hS; unfold Oper.wp; go_simp; first | done | exact Below.refl _ _)
                · (refine FixB.on (by first | rfl | kernel_rfl | (simp [Region.wanted, yielded]; done)) ?_; intro w' hS; have s0 := hS.1; have s1 := hS.2.1; clear hS; unfold Oper.wp; go_simp; first | done | exact Below.refl _ _)
                · (refine FixB.on (by first | rfl | kernel_rfl | (simp [Region.wanted, yielded]; done)) ?_; intro w' hS; have s0 := hS.1; have s1 := hS.2.1; clear hS; unfold Oper.wp; go_simp; first | done | exact Below.refl _ _)
                · (refine FixB.on (by first | rfl | kernel_rfl | (simp [Region.wanted, yielded]; done)) ?_; intro w' hS; have s0 := hS.1; have s1 := hS.2.1; clear hS; unfold Oper.wp; go_simp; first | done | exact Below.refl _ _)
                · (refine FixB.on (by first | rfl | kernel_rfl | (simp [Region.wanted, yielded]; done)) ?_; intro w' hS; have s0 := hS.1; have s1 := hS.2.1; clear hS; unfold Oper.wp; go_simp; first | done | exact Below.refl _ _)
                · (with_reducible refine FixB.of ?_ ?_; rfl; intro w' hS; have s0 := hS.1; have s1 := hS.2.1; clear hS; unfold Oper.wp; go_simp; first | done | exact Below.refl _ _)
              case hQ =>
                intro w' hS _
                have Hx' := Lib.hid hS.2.2.1
                have Hb := Lib.hid hS.2.2.2
                clear hS HS hp
                go_wp2
                go_roundw
                case rel => exact ⟨k + 1, by omega, by go_num, Hs.out, Hx'.out, Hb.out⟩
                case measure => simp [intOf]; omega
            · have Hr : Hid (same6 ms = false) := same6_no (j := k) (by rw [Hn.out]; exact hlt) (by
                rw [hi, Bool.true_and, sameP, decide_eq_false_iff_not]
                simpa using hp)
              go_wp2_with fail
              refine wp_region_same [] rfl (by kernel_rfl) (by kernel_rfl) (by kernel_rfl) (fun w' => SixAt w' b (off + k * 6) (gm ms k) ∧ w'.cell? ⟨b, off, none⟩ = some (I (gm ms 0).p) ∧ RdM w' w.heap.size (some ⟨b, off, none⟩) ms ∧ Below w.heap.size w w') _
                [.slice (some ⟨b, off, none⟩) n c, I k, .pointer (some ⟨b, off + k * 6, none⟩), .agg (mc (gm ms k)), .bool true, .bool false, .bool false, .slice (some ⟨b, off, none⟩) n c, I k, .pointer (some ⟨b, off + k * 6, none⟩), .pointer (some ⟨b, off + k * 6, none⟩), I (gm ms k).p, .slice (some ⟨b, off, none⟩) n c, .pointer (some ⟨b, off, none⟩), .pointer (some ⟨b, off, none⟩), I (gm ms 0).p, .bool true, .bool true]
                (by simp only [putAll, List.setIfInBounds_toArray, List.set_cons_succ, List.set_cons_zero]; rfl) HS.out ?hop ?hQ
              case hop =>
                refine FixBL.toL (fun w' w'' hS hb => ⟨hS.1.below hb hS.1.lt, (hb.cell (p := ⟨b, off, none⟩) (show b < w'.heap.size by have := hS.2.2.2.size; omega)).trans hS.2.1, Rd.below' hS.2.2.1 hb hS.2.2.2.size, hS.2.2.2.trans (hb.mono hS.2.2.2.size)⟩) _ _ ?_
                refine ⟨.inr ?_, .inr ?_, .inr ?_, .inr ?_, .inr ?_, .inr ?_, .inr ?_, .inr ?_, .inr ?_, .inr ?_, .inr ?_, .inr ?_, .inr ?_, .inr ?_, .inr ?_, .inr ?_, .inr ?_, .inr ?_, trivial⟩
                · (with_reducible refine FixB.of ?_ ?_; rfl; intro w' hS; have s0 := hS.1; have s1 := hS.2.1; clear hS; unfold Oper.wp; go_simp; first | done | exact Below.refl _ _)
                · (with_reducible refine FixB.of ?_ ?_; rfl; intro w' hS; have s0 := hS.1; have s1 := hS.2.1; clear hS; unfold Oper.wp; go_simp; first | done | exact Below.refl _ _)
                · (with_reducible refine FixB.of ?_ ?_; rfl; intro w' hS; have s0 := hS.1; have s1 := hS.2.1; clear hS; unfold Oper.wp; go_simp; first | done | exact Below.refl _ _)
                · (with_reducible refine FixB.of ?_ ?_; rfl; intro w' hS; have s0 := hS.1; have s1 := hS.2.1; clear hS; unfold Oper.wp; go_simp; first | done | exact Below.refl _ _)
                · (with_reducible refine FixB.of ?_ ?_; rfl; intro w' hS; have s3 := Lib.hid hS; unfold Oper.wp; clear hS; go_simp; refine (l01Is_at hi _).mono ?_; rintro e w1 ⟨rfl, hb⟩; exact ⟨rfl, hb⟩)
                · (with_reducible refine FixB.of ?_ ?_; rfl; intro w' hS; have s0 := hS.1; have s1 := hS.2.1; clear hS; unfold Oper.wp; go_simp; first | done | exact Below.refl _ _)
                · (with_reducible refine FixB.of ?_ ?_; rfl; intro w' hS; have s0 := hS.1; have s1 := hS.2.1; clear hS; unfold Oper.wp; go_simp; first | done | exact Below.refl _ _)
                · (refine FixB.on (by first | rfl | kernel_rfl | (simp [Region.wanted, yielded]; done)) ?_; intro w' hS; have s0 := hS.1; have s1 := hS.2.1; clear hS; unfold Oper.wp; go_simp; first | done | exact Below.refl _ _)
                · (refine FixB.on (by first | rfl | kernel_rfl | (simp [Region.wanted, yielded]; done)) ?_; intro w' hS; have s0 := hS.1; have s1 := hS.2.1; clear hS; unfold Oper.wp; go_simp; first | done | exact Below.refl _ _)
                · (refine FixB.on (by first | rfl | kernel_rfl | (simp [Region.wanted, yielded]; done)) ?_; intro w' hS; have s0 := hS.1; have s1 := hS.2.1; clear hS; unfold Oper.wp; go_simp; first | done | exact Below.refl _ _)
                · (refine FixB.on (by first | rfl | kernel_rfl | (simp [Region.wanted, yielded]; done)) ?_; intro w' hS; have s0 := hS.1; have s1 := hS.2.1; clear hS; unfold Oper.wp; go_simp; first | done | exact Below.refl _ _)
                · (refine FixB.on (by first | rfl | kernel_rfl | (simp [Region.wanted, yielded]; done)) ?_; intro w' hS; have s0 := hS.1; have s1 := hS.2.1; clear hS; unfold Oper.wp; go_simp; first | done | exact Below.refl _ _)
                · (refine FixB.on (by first | rfl | kernel_rfl | (simp [Region.wanted, yielded]; done)) ?_; intro w' hS; have s0 := hS.1; have s1 := hS.2.1; clear hS; unfold Oper.wp; go_simp; first | done | exact Below.refl _ _)
                · (refine FixB.on (by first | rfl | kernel_rfl | (simp [Region.wanted, yielded]; done)) ?_; intro w' hS; have s0 := hS.1; have s1 := hS.2.1; clear hS; unfold Oper.wp; go_simp; first | done | exact Below.refl _ _)
                · (refine FixB.on (by first | rfl | kernel_rfl | (simp [Region.wanted, yielded]; done)) ?_; intro w' hS; have s0 := hS.1; have s1 := hS.2.1; clear hS; unfold Oper.wp; go_simp; first | done | exact Below.refl _ _)
                · (refine FixB.on (by first | rfl | kernel_rfl | (simp [Region.wanted, yielded]; done)) ?_; intro w' hS; have s0 := hS.1; have s1 := hS.2.1; clear hS; unfold Oper.wp; go_simp; first | done | exact Below.refl _ _)
                · (refine FixB.on (by first | rfl | kernel_rfl | (simp [Region.wanted, yielded]; done)) ?_; intro w' hS; have s0 := hS.1; have s1 := hS.2.1; clear hS; unfold Oper.wp; go_simp; first | done | exact Below.refl _ _)
                · (with_reducible refine FixB.of ?_ ?_; rfl; intro w' hS; have s0 := hS.1; have s1 := hS.2.1; clear hS; unfold Oper.wp; go_simp; first | done | exact Below.refl _ _)
              case hQ =>
                intro w' hS _
                have Hb := Lib.hid hS.2.2.2
                clear hS HS hp
                go_wp2
                go_ret
                exact ⟨ret_bool Hr.out.symm, Hb.out⟩
        · obtain rfl : k = n := by omega
          have Hr : Hid (same6 ms = true) := same6_yes hin.out fun j hj => hg.out j (by rw [Hn.out] at hj; exact hj)
          go_wp2
          go_ret
          exact ⟨ret_bool Hr.out.symm, hbel⟩
    · have Hr : Hid (same6 ms = false) := same6_len (by rw [Hn.out, inR_false]; omega)
      have a1 : ¬ ((n : Int) < 1) := by omega
      have a2 : (6 : Int) < (n : Int) := by omega
      go_enter Tryz.func233, Tryz.ntmps233
      go_wp2
      go_ret
      exact ⟨ret_bool Hr.out.symm, Below.refl _ _⟩
  · obtain rfl : n = 0 := by omega
    have Hr : Hid (same6 ms = false) := same6_len (by rw [Hn.out, inR_false]; omega)
    go_enter Tryz.func233, Tryz.ntmps233
    go_wp2
    go_ret
    exact ⟨ret_bool Hr.out.symm, Below.refl _ _⟩

theorem l02Given_any (A1 A2 : Option Addr) (n1 c1 n2 c2 : Nat) (ms xs : List M) (w : World) (hx : RdM w w.heap.size A1 ms) (hy : RdM w w.heap.size A2 xs) (hn : ms.length = n1) (hm : xs.length = n2) (hb : n1 < 1073741824) (hb2 : n2 < 1073741824) :
    Calls Tryz.prog 164 #[.slice A1 n1 c1, .slice A2 n2 c2] w fun e w' => e = .returned (I (codeL ms xs)) ∧ Below w.heap.size w w' := by
  have Hx := Lib.hid hx
  have Hy := Lib.hid hy
  have Hn := Lib.hid hn
  have Hm := Lib.hid hm
  clear hx hy hn hm
  go_enter Tryz.func164, Tryz.ntmps164
  go_wp2
  go_loopw [5] (fun i wr => ∃ k : Nat, k ≤ n1 ∧ i = .int .i64 k ∧ Hid (∀ j, j < k → isMap (gm ms j) = true) ∧ Below w.heap.size w wr) (fun i _ => n1 - (intOf i).toNat)
  case atStart => exact ⟨0, by omega, rfl, fun j hj => absurd hj (by omega), Below.refl _ _⟩
  case round =>
    obtain ⟨k, hk, rfl, hg, hbl⟩ := hrel
    by_cases hlt : k < n1
    · obtain ⟨b, off, rfl, hbb, c0, c1, c2, c3, c4, c5⟩ := RdM.at_ (Rd.below Hx.out hbl) (k := k) (by rw [Hn.out]; exact hlt)
      have hwz := hbl.size
      cases hi : isMap (gm ms k)
      · have Hc : Hid (codeL ms xs = 1) := codeL_1 (all_gm_false (by rw [Hn.out]; exact hlt) hi)
        go_wp2_with fail
        refine (l01Is_at hi _).mono ?_
        rintro e w2 ⟨rfl, hb2⟩
        have hbz := hbl.trans (hb2.mono hwz)
        clear hb2
        go_wp2
        go_ret
        exact ⟨ret_int Hc.out.symm, hbz⟩
      · have Hs : Hid (∀ j, j < k + 1 → isMap (gm ms j) = true) := by
          intro j hj
          by_cases e : j = k
          · subst e; exact hi
          · exact hg.out j (by omega)
        go_wp2_with fail
        refine (l01Is_at hi _).mono ?_
        rintro e w2 ⟨rfl, hb2⟩
        have hbz := hbl.trans (hb2.mono hwz)
        clear hb2
        go_wp2
        go_roundw
        case rel => exact ⟨k + 1, by omega, by go_num, Hs.out, hbz⟩
        case measure => simp [intOf]; omega
    · obtain rfl : k = n1 := by omega
      have Hall : Hid (ms.all isMap = true) := all_gm.2 fun j hj => hg.out j (by rw [Hn.out] at hj; exact hj)
      clear hg
      go_wp2_with fail
      go_loopw [6] (fun i wr => ∃ k : Nat, k ≤ n2 ∧ i = .int .i64 k ∧ Hid (∀ j, j < k → isMap (gm xs j) = true) ∧ Below w.heap.size w wr) (fun i _ => n2 - (intOf i).toNat)
      case atStart => exact ⟨0, by omega, rfl, fun j hj => absurd hj (by omega), hbl⟩
      case round =>
        clear hbl
        obtain ⟨m, hm, rfl, hg, hbl⟩ := hrel
        have hwz := hbl.size
        by_cases hlt : m < n2
        · obtain ⟨b, off, rfl, hbb, c0, c1, c2, c3, c4, c5⟩ := RdM.at_ (Rd.below Hy.out hbl) (k := m) (by rw [Hm.out]; exact hlt)
          cases hi : isMap (gm xs m)
          · have Hc : Hid (codeL ms xs = 1) := codeL_2 (all_gm_false (by rw [Hm.out]; exact hlt) hi)
            go_wp2_with fail
            refine (l01Is_at hi _).mono ?_
            rintro e w2 ⟨rfl, hb2⟩
            have hbz := hbl.trans (hb2.mono hwz)
            clear hb2
            go_wp2
            go_ret
            exact ⟨ret_int Hc.out.symm, hbz⟩
          · have Hs : Hid (∀ j, j < m + 1 → isMap (gm xs j) = true) := by
              intro j hj
              by_cases e : j = m
              · subst e; exact hi
              · exact hg.out j (by omega)
            go_wp2_with fail
            refine (l01Is_at hi _).mono ?_
            rintro e w2 ⟨rfl, hb2⟩
            have hbz := hbl.trans (hb2.mono hwz)
            clear hb2
            go_wp2
            go_roundw
            case rel => exact ⟨m + 1, by omega, by go_num, Hs.out, hbz⟩
            case measure => simp [intOf]; omega
        · obtain rfl : m = n2 := by omega
          have Hall2 : Hid (xs.all isMap = true) := all_gm.2 fun j hj => hg.out j (by rw [Hm.out] at hj; exact hj)
          clear hg
          cases hs6 : same6 ms
          · have Hc : Hid (codeL ms xs = 2) := codeL_3 Hall.out Hall2.out hs6
            go_wp2_with fail
            refine (l01Same_any A1 k c1 ms _ (Rd.more (Rd.below Hx.out hbl) hwz) Hn.out hb).mono ?_
            rintro e w2 ⟨rfl, hb2⟩
            rw [hs6]
            have hbz := hbl.trans (hb2.mono hwz)
            clear hb2
            go_wp2
            go_ret
            exact ⟨ret_int Hc.out.symm, hbz⟩
          · have H6 := Lib.hid hs6
            have hn1 := inR_true.1 (same6_iff hs6).1
            rw [Hn.out] at hn1
            go_wp2_with fail
            refine (l01Same_any A1 k c1 ms _ (Rd.more (Rd.below Hx.out hbl) hwz) Hn.out hb).mono ?_
            rintro e w2 ⟨rfl, hb2⟩
            rw [hs6]
            replace hbl := hbl.trans (hb2.mono hwz)
            clear hb2 hwz hs6
            go_wp2_with fail
            go_loopw [7] (fun i wr => ∃ j : Nat, j ≤ m ∧ i = .int .i64 j ∧ Hid (∀ i, i < j → sameP ms (gm xs i) = true) ∧ Below w.heap.size w wr) (fun i _ => m - (intOf i).toNat)
            case atStart => exact ⟨0, by omega, rfl, fun j hj => absurd hj (by omega), hbl⟩
            case round =>
              clear hbl
              obtain ⟨j, hj, rfl, hg, hbl⟩ := hrel
              by_cases hlt : j < m
              · obtain ⟨b, off, rfl, hbb, c0, c1, c2, c3, c4, c5⟩ := RdM.at_ (Rd.below Hy.out hbl) (k := j) (by rw [Hm.out]; exact hlt)
                obtain ⟨b1, off1, rfl, hbb1, d0, _⟩ := RdM.at_ (Rd.below Hx.out hbl) (k := 0) (by rw [Hn.out]; omega)
                have d1 := d0
                simp only [Nat.zero_mul, Nat.add_zero] at d1
                clear d0 c1 c2 c3 c4 c5
                have h0 : (0 : Int) ≤ (j : Int) := by omega
                have h1 : (j : Int) < (m : Int) := by omega
                have hpos : (0 : Int) < (k : Int) := by omega
                have hpos' : 0 < k := by omega
                cases hp : ((gm xs j).p != (gm ms 0).p)
                · have Hs : Hid (∀ i, i < j + 1 → sameP ms (gm xs i) = true) := by
                    intro i hi
                    by_cases e : i = j
                    · subst e; simpa [sameP] using hp
                    · exact hg.out i (by omega)
                  go_wp2_with fail
                  go_quiet (fail)
                  go_wp2
                  go_roundw
                  case rel => exact ⟨j + 1, by omega, by go_num, Hs.out, hbl.drewN _⟩
                  case measure => simp [intOf]; omega
                · have Hc : Hid (codeL ms xs = 2) := codeL_4 Hall.out Hall2.out (all_gm_false (j := j) (by rw [Hm.out]; exact hlt) (by
                    rw [sameP, decide_eq_false_iff_not]
                    simpa using hp))
                  go_wp2_with fail
                  go_quiet (fail)
                  go_wp2
                  go_ret
                  exact ⟨ret_int Hc.out.symm, hbl.drewN _⟩
              · obtain rfl : j = m := by omega
                have Hc : Hid (codeL ms xs = 0) := codeL_5 Hall.out Hall2.out H6.out (all_gm.2 fun i hi => hg.out i (by rw [Hm.out] at hi; exact hi))
                go_wp2
                go_ret
                exact ⟨ret_int Hc.out.symm, hbl⟩
end Go.Proofs.YtkbfocoaobiijaaGreat

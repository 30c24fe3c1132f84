/- Contracts of the number of a set's bits, of the numbers that a set has, and of the order of lists; sets below 64, lists of at most 300 numbers. -/
import Derived.Test.YtneonacdjmfaoaaK1
import Derived.Test.YtneonacdjmfaoaaC10
namespace Go.Proofs.Ytneonacdjmfaoaa
open Go.RowKit
set_option maxRecDepth 100000
set_option linter.unusedSimpArgs false
set_option linter.unusedVariables false

def pc1 (x : Int) : Int := IntKind.u64.wrap (bits BinOp.and IntKind.u64 (x / 2) 6148914691236517205 + bits BinOp.and IntKind.u64 x 6148914691236517205)
def pc2 (x : Int) : Int := IntKind.u64.wrap (bits BinOp.and IntKind.u64 (x / 4) 3689348814741910323 + bits BinOp.and IntKind.u64 x 3689348814741910323)
def pc3 (x : Int) : Int := bits BinOp.and IntKind.u64 (IntKind.u64.wrap (x / 16 + x)) 1085102592571150095
def pc4 (x : Int) : Int := IntKind.u64.wrap (x + x / 256)
def pc5 (x : Int) : Int := IntKind.u64.wrap (x + x / 65536)
def pc6 (x : Int) : Int := IntKind.u64.wrap (x + x / 4294967296)
def pcOk (x : Int) : Bool := decide (0 ≤ x) && decide (x < 4611686018427387904)
theorem pc_all : ∀ u : Fin 64, (pcOk (pc1 u.val) && pcOk (pc2 (pc1 u.val)) && pcOk (pc3 (pc2 (pc1 u.val))) && pcOk (pc4 (pc3 (pc2 (pc1 u.val)))) && pcOk (pc5 (pc4 (pc3 (pc2 (pc1 u.val))))) && pcOk (pc6 (pc5 (pc4 (pc3 (pc2 (pc1 u.val))))))) = true ∧ bits BinOp.and IntKind.i64 (pc6 (pc5 (pc4 (pc3 (pc2 (pc1 u.val)))))) 127 = (bitsL u.val).length := by decide +kernel
theorem pcOk_iff {x : Int} (h : pcOk x = true) : 0 ≤ x ∧ x < 4611686018427387904 := by unfold pcOk at h; simp at h; omega

theorem ones64_any (u : Nat) (hu : u < 64) (w : World) : Calls Try.prog 74 #[.int .u64 u] w fun e w' => e = .returned (I (bitsL u).length) ∧ w = w' := by
  obtain ⟨p, hp⟩ := pc_all ⟨u, hu⟩
  simp only [Bool.and_eq_true] at p hp
  obtain ⟨⟨⟨⟨⟨p1, p2⟩, p3⟩, p4⟩, p5⟩, p6⟩ := p
  obtain ⟨x1, e1⟩ : ∃ x1, x1 = pc1 u := ⟨_, rfl⟩
  rw [← e1] at p1 p2 p3 p4 p5 p6 hp
  obtain ⟨x2, e2⟩ : ∃ x2, x2 = pc2 x1 := ⟨_, rfl⟩
  rw [← e2] at p2 p3 p4 p5 p6 hp
  obtain ⟨x3, e3⟩ : ∃ x3, x3 = pc3 x2 := ⟨_, rfl⟩
  rw [← e3] at p3 p4 p5 p6 hp
  obtain ⟨x4, e4⟩ : ∃ x4, x4 = pc4 x3 := ⟨_, rfl⟩
  rw [← e4] at p4 p5 p6 hp
  obtain ⟨x5, e5⟩ : ∃ x5, x5 = pc5 x4 := ⟨_, rfl⟩
  rw [← e5] at p5 p6 hp
  obtain ⟨x6, e6⟩ : ∃ x6, x6 = pc6 x5 := ⟨_, rfl⟩
  rw [← e6] at p6 hp
  replace p1 := pcOk_iff p1
  replace p2 := pcOk_iff p2
  replace p3 := pcOk_iff p3
  replace p4 := pcOk_iff p4
  replace p5 := pcOk_iff p5
  replace p6 := pcOk_iff p6
  have f1 : IntKind.u64.wrap (bits BinOp.and IntKind.u64 ((u : Int) / 2) 6148914691236517205 + bits BinOp.and IntKind.u64 (u : Int) 6148914691236517205) = x1 := e1.symm
  have f2 : IntKind.u64.wrap (bits BinOp.and IntKind.u64 (x1 / 4) 3689348814741910323 + bits BinOp.and IntKind.u64 x1 3689348814741910323) = x2 := e2.symm
  have f3 : bits BinOp.and IntKind.u64 (x2 / 16 + x2) 1085102592571150095 = x3 := by rw [e3]; unfold pc3; rw [IntWalk.u64_in _ ⟨by omega, by omega⟩]
  have f4 : IntKind.u64.wrap (x3 + x3 / 256) = x4 := e4.symm
  have f5 : IntKind.u64.wrap (x4 + x4 / 65536) = x5 := e5.symm
  have f6 : IntKind.u64.wrap (x5 + x5 / 4294967296) = x6 := e6.symm
  have g1 : IntKind.u64.wrap x1 = x1 := IntWalk.u64_in _ ⟨by omega, by omega⟩
  have g2 : IntKind.u64.wrap x2 = x2 := IntWalk.u64_in _ ⟨by omega, by omega⟩
  have g3 : IntKind.u64.wrap x3 = x3 := IntWalk.u64_in _ ⟨by omega, by omega⟩
  have g4 : IntKind.u64.wrap x4 = x4 := IntWalk.u64_in _ ⟨by omega, by omega⟩
  have g5 : IntKind.u64.wrap x5 = x5 := IntWalk.u64_in _ ⟨by omega, by omega⟩
  have g6 : IntKind.u64.wrap x6 = x6 := IntWalk.u64_in _ ⟨by omega, by omega⟩
  have g7 : IntKind.i64.wrap x6 = x6 := IntWalk.i64_in _ ⟨by omega, by omega⟩
  have Hu := Lib.hid hu
  clear e1 e2 e3 e4 e5 e6 hu
  go_enter Try.func74, Try.ntmps74
  go_wp2_with fail
  go_ret
  exact ⟨rfl, rfl⟩

theorem ones_any (u : Nat) (hu : u < 64) (w : World) : Calls Try.prog 39 #[.int .u64 u] w fun e w' => e = .returned (I (bitsL u).length) ∧ w = w' := by
  have Hu := Lib.hid hu
  clear hu
  go_enter Try.func39, Try.ntmps39
  go_wp2_with (go_at_call 74; refine (ones64_any _ Hu.out _).mono ?_; rintro e w' ⟨rfl, rfl⟩)
  go_ret
  exact ⟨rfl, rfl⟩

def bitsTo (u k : Nat) : List Int := ((List.range k).filter fun j => u.testBit j).map fun (j : Nat) => (j : Int)
theorem bitsTo_step (u k : Nat) : bitsTo u (k + 1) = bitsTo u k ++ (if u.testBit k then [(k : Int)] else []) := by
  unfold bitsTo
  rw [List.range_succ, List.filter_append, List.map_append]
  cases h : u.testBit k <;> simp [h]
theorem bitsTo_len (u k : Nat) : (bitsTo u k).length ≤ k := by
  have h2 := List.length_filter_le (fun j => u.testBit j) (List.range k)
  unfold bitsTo
  simp at h2 ⊢
  omega

theorem bit_all : ∀ u : Fin 64, ∀ r : Fin 6, (bits BinOp.and IntKind.u64 ((u.val : Int) / 2 ^ r.val) 1 == 1) = u.val.testBit r.val := by decide +kernel
theorem chosen_any (u : Nat) (hu : u < 64) (w : World) : Calls Try.prog 38 #[.int .u64 u] w fun e w' => ∃ v, e = .returned v ∧ OwI 2 w' w.heap.size v (bitsL u) ∧ Below w.heap.size w w' := by
  have Hu := Lib.hid hu
  clear hu
  go_enter Try.func38, Try.ntmps38
  go_wp2_with fail
  go_loopw [5, 3] (fun i v wr => ∃ r : Nat, i = .int .i64 r ∧ r ≤ 6 ∧ Below w.heap.size w wr ∧ OwI 2 wr w.heap.size v (bitsTo u r)) (fun i _ _ => 6 - (intOf i).toNat)
  case atStart => exact ⟨0, rfl, by omega, Below.refl _ _, OwI.nil_⟩
  case round =>
    obtain ⟨r, rfl, hr, hb', ho⟩ := hrel
    have hdl := bitsTo_len u r
    obtain ⟨Av, cv, hv, _⟩ := ho.form
    subst hv
    have Hb := Lib.hid hb'
    have Ho := Lib.hid ho
    have hsz := hb'.size
    clear hb' ho
    by_cases hrn : r < 6
    · have hrz : (r : Int) < 6 := by omega
      have hbt := bit_all ⟨u, Hu.out⟩ ⟨r, hrn⟩
      simp only at hbt
      have hst := bitsTo_step u r
      cases hc : u.testBit r
      · rw [hc] at hbt hst
        have HE : Hid (bitsTo u (r + 1) = bitsTo u r) := by show _ = _; rw [hst]; simp
        clear hst hc
        go_wp2_with fail
        go_roundw
        case rel => exact ⟨r + 1, by go_num, by omega, Hb.out, by rw [HE.out]; exact Ho.out⟩
        case measure => simp [intOf]; omega
      · rw [hc] at hbt hst
        have HE : Hid (bitsTo u (r + 1) = bitsTo u r ++ [(r : Int)]) := hst
        clear hst hc
        go_wp2_with (at_builtin; refine wpList_pushI rfl (.tmp 13) (.tmp 15) rfl w.heap.size (.slice Av (bitsTo u r).length cv) (bitsTo u r) rfl (Ho.out.alloc _) wr.heap.size 1 r rfl ((Blk.new _ _ _).cell 0) (by omega) (by simp; omega) (wr.heap.size + 1) (by simp) ?_; intro g' cap w4 ho' hgr hg' hlt'; have Hb4 := Lib.hid ((Ho.out.alloc (.cells #[I r] 2)).bel (Hb.out.alloc (by omega) _) hgr (Nat.le_refl _) (by simp; omega)); have Ho4 := Lib.hid ho'; clear ho' hgr hg' hlt')
        go_roundw
        case rel => exact ⟨r + 1, by go_num, by omega, Hb4.out, by rw [HE.out]; exact Ho4.out⟩
        case measure => simp [intOf]; omega
    · obtain rfl : r = 6 := by omega
      go_wp2_with fail
      go_ret
      exact ⟨_, rfl, Ho.out, Hb.out⟩

def cmpLs : List Int → List Int → Int
  | [], [] => 0
  | [], _ :: _ => -1
  | _ :: _, [] => 1
  | a :: xs, b :: ys => if cmpI a b = 0 then cmpLs xs ys else cmpI a b
theorem cmpLs_neg : ∀ {a b : List Int}, cmpLs a b < 0 ↔ lexI a b = true
  | [], [] => by simp [cmpLs, lexI]
  | [], b :: ys => by simp [cmpLs, lexI]
  | a :: xs, [] => by simp [cmpLs, lexI]
  | a :: xs, b :: ys => by
    rw [cmpLs, lexI]
    by_cases h1 : a < b
    · rw [cmpI_lt h1, if_pos h1]; simp
    · by_cases h2 : b < a
      · rw [cmpI_gt h2, if_neg h1, if_pos h2]; simp
      · rw [cmpI_eq (show a = b by omega), if_neg h1, if_neg h2, if_pos rfl]
        exact cmpLs_neg
theorem gi_drop {xs : List Int} {i : Nat} (h : i < xs.length) : xs.drop i = gi xs i :: xs.drop (i + 1) := by
  rw [List.drop_eq_getElem_cons h]
  simp [gi, List.getD, h]
theorem cmpLs_go {xs ys : List Int} {i : Nat} (h1 : i < xs.length) (h2 : i < ys.length) (h : cmpI (gi xs i) (gi ys i) = 0) : cmpLs (xs.drop i) (ys.drop i) = cmpLs (xs.drop (i + 1)) (ys.drop (i + 1)) := by
  rw [gi_drop h1, gi_drop h2, cmpLs, if_pos h]
theorem cmpLs_stop {xs ys : List Int} {i : Nat} (h1 : i < xs.length) (h2 : i < ys.length) (h : cmpI (gi xs i) (gi ys i) ≠ 0) : cmpLs (xs.drop i) (ys.drop i) = cmpI (gi xs i) (gi ys i) := by
  rw [gi_drop h1, gi_drop h2, cmpLs, if_neg h]
theorem cmpLs_long {xs ys : List Int} {i : Nat} (h1 : i < xs.length) (h2 : ys.length ≤ i) : cmpLs (xs.drop i) (ys.drop i) = 1 := by
  rw [gi_drop h1, List.drop_eq_nil_of_le h2, cmpLs]
theorem cmpLs_short {xs ys : List Int} {i : Nat} (h1 : xs.length ≤ i) (h2 : i < ys.length) : cmpLs (xs.drop i) (ys.drop i) = -1 := by
  rw [gi_drop h2, List.drop_eq_nil_of_le h1, cmpLs]
theorem cmpLs_both {xs ys : List Int} {i : Nat} (h1 : xs.length ≤ i) (h2 : ys.length ≤ i) : cmpLs (xs.drop i) (ys.drop i) = 0 := by
  rw [List.drop_eq_nil_of_le h1, List.drop_eq_nil_of_le h2, cmpLs]

theorem slCompare_any (A1 A2 : Option Addr) (n1 c1 n2 c2 : Nat) (xs ys : List Int) (w : World) (hx : RdI w w.heap.size A1 xs) (hy : RdI w w.heap.size A2 ys) (hn : xs.length = n1) (hm : ys.length = n2) (hb : n1 ≤ 300) (hb2 : n2 ≤ 300) :
    Calls Try.prog 40 #[.slice A1 n1 c1, .slice A2 n2 c2] w fun e w' => e = .returned (I (cmpLs xs ys)) ∧ Below w.heap.size w w' := by
  have Hx := Lib.hid hx
  have Hy := Lib.hid hy
  have Hn := Lib.hid hn
  have Hm := Lib.hid hm
  clear hx hy hn hm
  go_enter Try.func40, Try.ntmps40
  go_wp2_with fail
  go_loopw [11] (fun i wr => ∃ r : Nat, i = .int .i64 r ∧ r ≤ n1 ∧ r ≤ n2 ∧ Below w.heap.size w wr ∧ Hid (cmpLs xs ys = cmpLs (xs.drop r) (ys.drop r))) (fun i _ => n1 - (intOf i).toNat)
  case atStart => exact ⟨0, rfl, by omega, by omega, Below.refl _ _, by show _ = _; rw [List.drop_zero, List.drop_zero]⟩
  case round =>
    obtain ⟨r, rfl, hr1, hr2, hb', HE⟩ := hrel
    have Hb := Lib.hid hb'
    clear hb'
    by_cases h1 : r < n1
    · have h1z : (r : Int) < (n1 : Int) := by omega
      obtain ⟨b, off, rfl, hbb, x1⟩ := RdI.at_ (Hx.out.below Hb.out) (k := r) (by rw [Hn.out]; exact h1)
      by_cases h2 : r < n2
      · have h2z : (r : Int) < (n2 : Int) := by omega
        obtain ⟨b', off', rfl, hbb', x2⟩ := RdI.at_ (Hy.out.below Hb.out) (k := r) (by rw [Hm.out]; exact h2)
        by_cases hc : cmpI (gi xs r) (gi ys r) = 0
        · have HE2 : Hid (cmpLs xs ys = cmpLs (xs.drop (r + 1)) (ys.drop (r + 1))) := HE.out.trans (cmpLs_go (by rw [Hn.out]; exact h1) (by rw [Hm.out]; exact h2) hc)
          go_wp2_with (go_at_call 75; refine (compareI_any _ _ _).mono ?_; rintro e w' ⟨rfl, rfl⟩)
          go_roundw
          case rel => exact ⟨r + 1, by go_num, by omega, by omega, Hb.out, HE2⟩
          case measure => simp [intOf]; omega
        · have HE2 : Hid (cmpLs xs ys = cmpI (gi xs r) (gi ys r)) := HE.out.trans (cmpLs_stop (by rw [Hn.out]; exact h1) (by rw [Hm.out]; exact h2) hc)
          have hcb : (cmpI (gi xs r) (gi ys r) != 0) = true := by simpa using hc
          clear hc
          go_wp2_with (go_at_call 75; refine (compareI_any _ _ _).mono ?_; rintro e w' ⟨rfl, rfl⟩)
          go_ret
          exact ⟨by rw [HE2.out] <;> rfl, Hb.out⟩
      · have h2z : ¬ ((r : Int) < (n2 : Int)) := by omega
        have HE2 : Hid (cmpLs xs ys = 1) := HE.out.trans (cmpLs_long (by rw [Hn.out]; exact h1) (by rw [Hm.out]; omega))
        go_wp2_with fail
        go_ret
        exact ⟨by rw [HE2.out] <;> rfl, Hb.out⟩
    · have h1z : ¬ ((r : Int) < (n1 : Int)) := by omega
      by_cases h2 : n1 < n2
      · have h2z : (n1 : Int) < (n2 : Int) := by omega
        have HE2 : Hid (cmpLs xs ys = -1) := HE.out.trans (cmpLs_short (by rw [Hn.out]; omega) (by rw [Hm.out]; omega))
        go_wp2_with fail
        go_ret
        exact ⟨by rw [HE2.out] <;> rfl, Hb.out⟩
      · have h2z : ¬ ((n1 : Int) < (n2 : Int)) := by omega
        have HE2 : Hid (cmpLs xs ys = 0) := HE.out.trans (cmpLs_both (by rw [Hn.out]; omega) (by rw [Hm.out]; omega))
        go_wp2_with fail
        go_ret
        exact ⟨by rw [HE2.out] <;> rfl, Hb.out⟩
end Go.Proofs.Ytneonacdjmfaoaa

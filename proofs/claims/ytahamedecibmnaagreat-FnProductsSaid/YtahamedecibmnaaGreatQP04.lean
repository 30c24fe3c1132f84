/- Contracts of the function that makes a map of a list, and of those that read a text; no conditions beyond those that each theorem states. Contracts of comparisons: of numbers, of lists, of maps; the maps are valid where the theorems say so. Contracts of the order of maps; the maps are valid where the theorems say so. The monoid of a list of maps in plain words: the maps that are met, by lengths, with their words; the order of maps, sorted lists; no conditions beyond those that each theorem states. Numbers of classes in plain words; no conditions beyond those that each theorem states. The ideals and the classes of Green of a monoid of maps, in plain words; no program, no conditions beyond those that each theorem states. Numbers of maps, places of elements, and what the elements of a monoid are, in plain words; no conditions beyond those that each theorem states. What a search by generators reaches; classes of elements as numbers; no conditions beyond those that each theorem states. The depth of the classes of both sides in plain words; no conditions beyond those that each theorem states. Sets of places as five words of 64 bits; the grid of a class; numbers of words by length; no conditions beyond those that each theorem states. The least generating part of a list in plain words: the least of all parts by number and order, and the first of the parts in order; for lists of at most six. Contracts of the functions that read a map from a text; no conditions beyond those that each theorem states. Words for slices of bytes that the call owns, and the append of one byte; no conditions beyond those that each theorem states. Contracts of the functions that write a map as a text; the maps are valid where the theorems say so. The law on products in plain words: products, ranks, texts, lists of images, images and preimages of sets; no program in sight; the conditions are those of each theorem. Contracts of the source's beginning and of a pick; no conditions beyond those that each theorem states. -/
import Derived.Test.YtahamedecibmnaaGreatQP03
import Derived.Laws.CopyOwn
import Derived.Laws.Strings
import Derived.Deep.QuietTactic
import Derived.BigQuiet
import Derived.Laws.BitsLemmas
import Derived.Laws.IdiomStrings
import Derived.Laws.Concat
import Derived.IntWalk
set_option linter.unusedSimpArgs false
set_option linter.unusedVariables false
namespace Go.Proofs.YtahamedecibmnaaGreat
open Go.RowKit
set_option maxRecDepth 100000
theorem slc0 (g : Nat) (w : World) : (Instr.sliceAt 24 (.pointer (some ⟨g, 1, none⟩)) none none none).run Tryz.prog w = .ok (.slice (some ⟨g, 1, none⟩) 5 5) w := by kernel_rfl
theorem splice_made {zs : List Int} (h5 : zs.length ≤ 5) : (splice (mc ⟨zs.length, 0, 0, 0, 0, 0⟩).toList 1 (cI zs)).toArray = mc (made zs) := by
  match zs, h5 with
  | [], _ => rfl
  | [_], _ => rfl
  | [_, _], _ => rfl
  | [_, _, _], _ => rfl
  | [_, _, _, _], _ => rfl
  | [_, _, _, _, _], _ => rfl
theorem wpList_copyBox {w : World} {ops : Array Oper} {rest : List Oper} {o : Oper} {a : Act} {Q : Exit → Act → World → Prop} (hgd : o.guard = none) (d s : Operand)
    (ho : o.op = .call { callee := .builtin .copy, args := #[d, s], argTypes := #[37, 37] }) (g n c : Nat) (A : Option Addr) (zs : List Int) (hd : a.eval d = .slice (some ⟨g, 1, none⟩) 5 5) (hs : a.eval s = .slice A n c)
    (hB : Blk w g 26 (mc ⟨n, 0, 0, 0, 0, 0⟩)) (B : Nat) (hx : RdI w B A zs) (hn : Hid (zs.length = n)) (h5 : n ≤ 5)
    (h : ∀ w', Blk w' g 26 (mc (made zs)) → Below g w w' → wpList Tryz.prog ops Q rest (a.put o.dst (I n)) w') : wpList Tryz.prog ops Q (o :: rest) a w := by
  have hl : (cI zs).length = n := by rw [cI_length]; exact hn.out
  refine wpList_copy_splice hgd d s 37 37 ho 2 Tryz.underlying37 (by kernel_rfl) (some ⟨g, 1, none⟩) A 5 5 n c hd hs g 1 (mc ⟨n, 0, 0, 0, 0, 0⟩).toList 26 hB (cI zs) (by rw [hl]; exact (Nat.min_eq_left h5).symm) ?_ (by rw [hl]; show 1 + n ≤ 6; omega) ?_ g w (Below.refl _ _) (Nat.le_refl _) ?_
  · intro hp
    rw [hl] at hp
    obtain ⟨b, off, e, _, hc⟩ := hx.2 (by rw [hn.out]; exact hp)
    exact ⟨rfl, ⟨b, off, none⟩, e, fun j v hv => by
      have := hc j v hv
      unfold Addr.add
      split
      · rename_i h0; subst h0; simpa using this
      · exact this⟩
  · intro v hv
    obtain ⟨z, _, rfl⟩ := List.mem_map.1 hv
    rfl
  · intro w' hg hb
    rw [hl]
    have e : (mc ⟨(n : Int), 0, 0, 0, 0, 0⟩) = mc ⟨zs.length, 0, 0, 0, 0, 0⟩ := by rw [hn.out]
    have hg' := hg.out
    rw [e, splice_made (by rw [hn.out]; exact h5)] at hg'
    exact h w' hg' hb
theorem ImplMapOf_any (A : Option Addr) (n c : Nat) (zs : List Int) (w : World) (hx : RdI w w.heap.size A zs) (hn : zs.length = n) (hb : n < 1073741824) :
    Calls Tryz.prog 14 #[.slice A n c] w fun e w' => e = .returned (.tuple #[.agg (mc (mapOfR zs)), I (mapOfC zs)]) ∧ Below w.heap.size w w' := by
  have Hn := Lib.hid hn
  have Hx := Lib.hid hx
  clear hn hx
  have hB : Blk ((w.alloc (.cells (mc M0) 26)).alloc (.cells (mc ⟨n, 0, 0, 0, 0, 0⟩) 26)) w.heap.size 26 (mc M0) := (Blk.new _ _ _).alloc _
  obtain ⟨e0, e1, e2, e3, e4, e5⟩ := hB.six
  obtain ⟨z0, z1, z2, z3, z4, z5⟩ := hB.fr6
  clear hB
  cases hr : inR n 1 5
  · have Hr : Hid (mapOfR zs = M0 ∧ mapOfC zs = 2) := by
      have : mapOfOk zs = false := by unfold mapOfOk; rw [Hn.out, hr]; rfl
      exact ⟨by simp [mapOfR, this], by simp [mapOfC, this]⟩
    go_enter Tryz.func14, Tryz.ntmps14
    go_wp2_with (go_at_call 38; refine (within_any _ _ _ _).mono ?_; rintro e w' ⟨rfl, rfl⟩)
    refine bodyPost_ret (v := .tuple #[.agg (mc M0), I 2]) ?_ rfl ⟨by rw [Hr.out.1, Hr.out.2], by (repeat (first | with_reducible assumption | with_reducible exact Below.refl _ _ | with_reducible refine Below.setCell ?_ (by first | omega | (simp <;> omega)) _ | with_reducible refine Below.alloc ?_ (by first | omega | (simp <;> omega)) _ | with_reducible refine Below.drew ?_ | with_reducible refine Below.drewN ?_ _))⟩
    simp [results, Tryz.results14, go_sem, *]
    try exact ⟨rfl, rfl, rfl, rfl, rfl, rfl⟩
  · have hr1 := (inR_true.1 hr).1
    have hr2 := (inR_true.1 hr).2
    have Hin := Lib.hid hr
    have hsl := slc0 (w.heap.size + 1)
    have HX : Hid (∀ w', Below w.heap.size w w' → RdI w' w.heap.size A zs) := fun w' hb => Hx.out.below hb
    go_enter Tryz.func14, Tryz.ntmps14
    go_wp2_with (first | (go_at_call 38; refine (within_any _ _ _ _).mono ?_; rintro e w' ⟨rfl, rfl⟩) | (with_reducible show wpList _ _ _ (_ :: _) _ _; refine wpList_copyBox (o := ⟨some 16, _, _, _, _, _⟩) rfl (.tmp 14) (.tmp 15) rfl (w.heap.size + 1) n c A zs rfl rfl (Blk.new' _ _ _ (by simp)) w.heap.size (HX.out _ (by (repeat (first | with_reducible assumption | with_reducible exact Below.refl _ _ | with_reducible refine Below.setCell ?_ (by first | omega | (simp <;> omega)) _ | with_reducible refine Below.alloc ?_ (by first | omega | (simp <;> omega)) _ | with_reducible refine Below.drew ?_ | with_reducible refine Below.drewN ?_ _)))) Hn (by omega) ?_))
    intro w2 hB hb
    have hbel : Below w.heap.size w w2 := Below.trans (by (repeat (first | with_reducible assumption | with_reducible exact Below.refl _ _ | with_reducible refine Below.setCell ?_ (by first | omega | (simp <;> omega)) _ | with_reducible refine Below.alloc ?_ (by first | omega | (simp <;> omega)) _ | with_reducible refine Below.drew ?_ | with_reducible refine Below.drewN ?_ _))) (hb.mono (by simp <;> omega))
    have hR : Blk w2 w.heap.size 26 (mc M0) := Blk.below ((Blk.new _ _ _).alloc _) hb (by omega)
    clear hb e0 e1 e2 e3 e4 e5 z0 z1 z2 z3 z4 z5
    obtain ⟨e0, e1, e2, e3, e4, e5⟩ := hR.six
    obtain ⟨z0, z1, z2, z3, z4, z5⟩ := hR.fr6
    obtain ⟨d0, d1, d2, d3, d4, d5⟩ := hB.six
    have Hm : Hid (isMap (made zs) = okList zs) := isMap_made (by rw [Hn.out]; omega) (by rw [Hn.out]; omega)
    cases hv : okList zs
    · have Hr : Hid (mapOfR zs = M0 ∧ mapOfC zs = 2) := by
        have : mapOfOk zs = false := by unfold mapOfOk; rw [hv]; simp
        exact ⟨by simp [mapOfR, this], by simp [mapOfC, this]⟩
      have him : isMap (made zs) = false := Hm.out.trans hv
      go_wp2_with fail
      refine (isMap_any _ _).mono ?_
      rintro e w3 ⟨rfl, hb3⟩
      replace hR := hR.below hb3 hR.lt
      replace hbel := hbel.trans (hb3.mono hbel.size)
      clear hb3 e0 e1 e2 e3 e4 e5 z0 z1 z2 z3 z4 z5 d0 d1 d2 d3 d4 d5
      obtain ⟨e0, e1, e2, e3, e4, e5⟩ := hR.six
      obtain ⟨z0, z1, z2, z3, z4, z5⟩ := hR.fr6
      go_wp2
      refine bodyPost_ret (v := .tuple #[.agg (mc M0), I 2]) ?_ rfl ⟨by rw [Hr.out.1, Hr.out.2], by (repeat (first | with_reducible assumption | with_reducible exact Below.refl _ _ | with_reducible refine Below.setCell ?_ (by first | omega | (simp <;> omega)) _ | with_reducible refine Below.alloc ?_ (by first | omega | (simp <;> omega)) _ | with_reducible refine Below.drew ?_ | with_reducible refine Below.drewN ?_ _))⟩
      simp [results, Tryz.results14, go_sem, *]
      try exact ⟨rfl, rfl, rfl, rfl, rfl, rfl⟩
    · have Hr : Hid (mapOfR zs = made zs ∧ mapOfC zs = 0) := by
        have : mapOfOk zs = true := by unfold mapOfOk; rw [hv, Hn.out, Hin.out]; rfl
        exact ⟨by simp [mapOfR, this], by simp [mapOfC, this]⟩
      have him : isMap (made zs) = true := Hm.out.trans hv
      go_wp2_with fail
      refine (isMap_any _ _).mono ?_
      rintro e w3 ⟨rfl, hb3⟩
      replace hR := hR.below hb3 hR.lt
      replace hB := hB.below hb3 hB.lt
      replace hbel := hbel.trans (hb3.mono hbel.size)
      clear hb3 e0 e1 e2 e3 e4 e5 z0 z1 z2 z3 z4 z5 d0 d1 d2 d3 d4 d5
      obtain ⟨e0, e1, e2, e3, e4, e5⟩ := hR.six
      obtain ⟨z0, z1, z2, z3, z4, z5⟩ := hR.fr6
      obtain ⟨d0, d1, d2, d3, d4, d5⟩ := hB.six
      go_wp2
      refine bodyPost_ret (v := .tuple #[.agg (mc (made zs)), I 0]) ?_ rfl ⟨by rw [Hr.out.1, Hr.out.2], by (repeat (first | with_reducible assumption | with_reducible exact Below.refl _ _ | with_reducible refine Below.setCell ?_ (by first | omega | (simp <;> omega)) _ | with_reducible refine Below.alloc ?_ (by first | omega | (simp <;> omega)) _ | with_reducible refine Below.drew ?_ | with_reducible refine Below.drewN ?_ _))⟩
      simp [results, Tryz.results14, go_sem, *]
/-! ### texts -/
def byt (s : ByteArray) (k : Nat) : Int := if h : k < s.size then (s[k].toNat : Int) else 0
theorem byt_lo (s : ByteArray) (k : Nat) : 0 ≤ byt s k := by unfold byt; split <;> omega
theorem byt_hi (s : ByteArray) (k : Nat) : byt s k < 256 := by
  unfold byt; split
  · have := s[k].toNat_lt; omega
  · omega
theorem byt_run (s : ByteArray) {k : Nat} (h : k < s.size) : ∀ w, (Instr.index 9 (.string s) (.int .i64 k)).run Tryz.prog w = .ok (.int .u8 (byt s k)) w := by
  intro w
  rw [run_index_string w 9 s .i64 k Tryz.underlying9, dif_pos ⟨by omega, by omega⟩]
  simp [byt, h]
def digs (s : ByteArray) (k : Nat) : List Int := (List.range k).map fun j => byt s j - 48
theorem digs_length (s : ByteArray) (k : Nat) : (digs s k).length = k := by simp [digs]
theorem digs_succ (s : ByteArray) (k : Nat) : digs s (k + 1) = digs s k ++ [byt s k - 48] := by simp [digs, List.range_succ]
theorem gi_digs (s : ByteArray) {k n : Nat} (h : k < n) : gi (digs s n) k = byt s k - 48 := by simp [gi, digs, List.getD, h]
def readR (s : ByteArray) : M := mapOfR (digs s s.size)
def readC (s : ByteArray) : Int := if mapOfOk (digs s s.size) then 0 else 6
end Go.Proofs.YtahamedecibmnaaGreat

namespace Go.Proofs.YtahamedecibmnaaGreat
open Go.RowKit
set_option maxRecDepth 100000
def cmpI (a b : Int) : Int := if a < b then -1 else if b < a then 1 else 0
theorem cmpI_lt {a b : Int} (h : a < b) : cmpI a b = -1 := by simp [cmpI, h]
theorem cmpI_gt {a b : Int} (h : b < a) : cmpI a b = 1 := by rw [cmpI, if_neg (by omega), if_pos h]
theorem cmpI_eq {a b : Int} (h : a = b) : cmpI a b = 0 := by rw [cmpI, if_neg (by omega), if_neg (by omega)]
theorem cmpI_bd (a b : Int) : -1 ≤ cmpI a b ∧ cmpI a b ≤ 1 := by unfold cmpI; split <;> (try split) <;> omega
theorem cmpI_ne {a b : Int} : cmpI a b ≠ 0 ↔ a ≠ b := by unfold cmpI; split <;> (try split) <;> omega
theorem cmpI_neg {a b : Int} : cmpI a b = -1 ↔ a < b := by unfold cmpI; split <;> (try split) <;> omega
theorem cmpI_swap (a b : Int) : cmpI b a = - cmpI a b := by unfold cmpI; split <;> (try split) <;> (try split) <;> omega
theorem isNaN2 (x : Int) (w : World) : Calls Tryz.prog 85 #[I x] w fun e w' => e = .returned (.bool false) ∧ w = w' := by
  have h : (x != x) = false := by simp
  go_enter Tryz.func85, Tryz.ntmps85
  go_wp2
  go_ret
  exact ⟨by simp, rfl⟩
theorem compareI_any (x y : Int) (w : World) : Calls Tryz.prog 78 #[I x, I y] w fun e w' => e = .returned (I (cmpI x y)) ∧ w = w' := by
  by_cases h1 : x < y
  · have Hr := Lib.hid (cmpI_lt h1)
    go_enter Tryz.func78, Tryz.ntmps78
    go_wp2_with (go_at_call 85; refine (isNaN2 _ _).mono ?_; rintro e w' ⟨rfl, rfl⟩)
    go_ret
    exact ⟨ret_int Hr.out.symm, rfl⟩
  · by_cases h2 : y < x
    · have Hr := Lib.hid (cmpI_gt h2)
      go_enter Tryz.func78, Tryz.ntmps78
      go_wp2_with (go_at_call 85; refine (isNaN2 _ _).mono ?_; rintro e w' ⟨rfl, rfl⟩)
      go_ret
      exact ⟨ret_int Hr.out.symm, rfl⟩
    · have Hr := Lib.hid (cmpI_eq (show x = y by omega))
      go_enter Tryz.func78, Tryz.ntmps78
      go_wp2_with (go_at_call 85; refine (isNaN2 _ _).mono ?_; rintro e w' ⟨rfl, rfl⟩)
      go_ret
      exact ⟨ret_int Hr.out.symm, rfl⟩
def cmpL : List Int → List Int → Int
  | [], [] => 0
  | [], _ :: _ => -1
  | _ :: _, [] => 1
  | x :: xs, y :: ys => if cmpI x y = 0 then cmpL xs ys else cmpI x y
theorem cmpL_at : ∀ {k : Nat} {xs ys : List Int}, k < xs.length → k < ys.length → (∀ j, j < k → gi xs j = gi ys j) → gi xs k ≠ gi ys k → cmpL xs ys = cmpI (gi xs k) (gi ys k)
  | _, [], _, h, _, _, _ => by simp at h
  | _, _ :: _, [], _, h, _, _ => by simp at h
  | 0, x :: xs, y :: ys, _, _, _, hne => by
    have : x ≠ y := by simpa [gi] using hne
    rw [cmpL, if_neg (cmpI_ne.2 this)]; rfl
  | k + 1, x :: xs, y :: ys, h1, h2, he, hne => by
    have h0 : x = y := by simpa [gi] using he 0 (by omega)
    rw [cmpL, if_pos (cmpI_eq h0), cmpL_at (k := k) (by simpa using h1) (by simpa using h2) (fun j hj => by simpa [gi] using he (j + 1) (by omega)) (by simpa [gi] using hne)]
    simp [gi]
theorem cmpL_pre : ∀ {xs ys : List Int}, (∀ j, j < xs.length → j < ys.length → gi xs j = gi ys j) → cmpL xs ys = cmpI xs.length ys.length
  | [], [], _ => by simp [cmpL, cmpI]
  | [], _ :: _, _ => by rw [cmpL, cmpI_lt]; simp
  | _ :: _, [], _ => by rw [cmpL, cmpI_gt]; simp
  | x :: xs, y :: ys, h => by
    have h0 : x = y := by simpa [gi] using h 0 (by simp) (by simp)
    rw [cmpL, if_pos (cmpI_eq h0), cmpL_pre (fun j h1 h2 => by simpa [gi] using h (j + 1) (by simpa using h1) (by simpa using h2))]
    unfold cmpI
    simp
theorem compareL_any (A C : Option Addr) (n c m d : Nat) (xs ys : List Int) (w : World) (hx : RdI w w.heap.size A xs) (hy : RdI w w.heap.size C ys) (hn : xs.length = n) (hm : ys.length = m) (hb : n < 1073741824) (hbm : m < 1073741824) :
    Calls Tryz.prog 79 #[.slice A n c, .slice C m d] w fun e w' => e = .returned (I (cmpL xs ys)) ∧ w = w' := by
  have Hn := Lib.hid hn
  have Hm := Lib.hid hm
  have Hx := Lib.hid hx
  have Hy := Lib.hid hy
  clear hn hx hm hy
  go_enter Tryz.func79, Tryz.ntmps79
  go_wp2
  go_loop [11] (fun i => ∃ k : Nat, k ≤ n ∧ k ≤ m ∧ i = .int .i64 k ∧ Hid (∀ j, j < k → gi xs j = gi ys j)) (fun i => n - (intOf i).toNat)
  case atStart => exact ⟨0, by omega, by omega, rfl, fun j hj => absurd hj (by omega)⟩
  case round =>
    obtain ⟨k, hk, hk2, rfl, hg⟩ := hrel
    by_cases hlt : k < n
    · obtain ⟨b, off, rfl, hbb, c1⟩ := Hx.out.at_ (k := k) (by rw [Hn.out]; exact hlt)
      by_cases hlt2 : k < m
      · obtain ⟨b2, off2, rfl, hbb2, c2⟩ := Hy.out.at_ (k := k) (by rw [Hm.out]; exact hlt2)
        have hbd1 := (cmpI_bd (gi xs k) (gi ys k)).1
        have hbd2 := (cmpI_bd (gi xs k) (gi ys k)).2
        by_cases he : gi xs k = gi ys k
        · have hz : (cmpI (gi xs k) (gi ys k) != 0) = false := by rw [cmpI_eq he]; rfl
          have Hr : Hid (∀ j, j < k + 1 → gi xs j = gi ys j) := by
            intro j hj
            by_cases e : j = k
            · subst e; exact he
            · exact hg.out j (by omega)
          clear he
          go_wp2_with (go_at_call 78; refine (compareI_any _ _ _).mono ?_; rintro e w' ⟨rfl, rfl⟩)
          go_round
          case rel => exact ⟨k + 1, by omega, by omega, by go_num, Hr.out⟩
          case measure => simp [intOf]; omega
        · have hz : (cmpI (gi xs k) (gi ys k) != 0) = true := by simpa using cmpI_ne.2 he
          have Hr : Hid (cmpL xs ys = cmpI (gi xs k) (gi ys k)) := cmpL_at (by rw [Hn.out]; exact hlt) (by rw [Hm.out]; exact hlt2) hg.out he
          clear he
          go_wp2_with (go_at_call 78; refine (compareI_any _ _ _).mono ?_; rintro e w' ⟨rfl, rfl⟩)
          go_ret
          exact ⟨ret_int Hr.out.symm, rfl⟩
      · have Hr : Hid (cmpL xs ys = 1) := by
          show _ = _
          rw [cmpL_pre fun j _ h2 => hg.out j (by have := Hm.out; omega), cmpI_gt]
          have := Hn.out; have := Hm.out; omega
        go_wp2
        go_ret
        exact ⟨ret_int Hr.out.symm, rfl⟩
    · by_cases hlt2 : n < m
      · have Hr : Hid (cmpL xs ys = -1) := by
          show _ = _
          rw [cmpL_pre fun j h1 _ => hg.out j (by have := Hn.out; omega), cmpI_lt]
          have := Hn.out; have := Hm.out; omega
        go_wp2
        go_ret
        exact ⟨ret_int Hr.out.symm, rfl⟩
      · have Hr : Hid (cmpL xs ys = 0) := by
          show _ = _
          rw [cmpL_pre fun j h1 _ => hg.out j (by have := Hn.out; omega), cmpI_eq]
          have := Hn.out; have := Hm.out; omega
        go_wp2
        go_ret
        exact ⟨ret_int Hr.out.symm, rfl⟩
def or2 (a b : Int) : Int := if a = 0 then b else a
theorem or2_any (g c : Nat) (a b : Int) (w : World) (h0 : w.cell? ⟨g, 0, none⟩ = some (I a)) (h1 : w.cell? ⟨g, 1, none⟩ = some (I b)) :
    Calls Tryz.prog 77 #[.slice (some ⟨g, 0, none⟩) 2 c] w fun e w' => e = .returned (I (or2 a b)) ∧ w = w' := by
  go_enter Tryz.func77, Tryz.ntmps77
  go_wp2
  go_loop [8] (fun i => ∃ k : Nat, k ≤ 2 ∧ i = .int .i64 k ∧ Hid (1 ≤ k → a = 0) ∧ Hid (2 ≤ k → b = 0)) (fun i => 2 - (intOf i).toNat)
  case atStart => exact ⟨0, by omega, rfl, fun h => by omega, fun h => by omega⟩
  case round =>
    obtain ⟨k, hk, rfl, ha, hb⟩ := hrel
    match k, hk with
    | 0, _ =>
      by_cases hz : a = 0
      · have hzb : (a != 0) = false := by simp [hz]
        have Hz := Lib.hid hz
        clear hz
        go_wp2
        go_round
        case rel => exact ⟨1, by omega, by go_num, fun _ => Hz.out, fun h => by omega⟩
        case measure => simp [intOf]
      · have hzb : (a != 0) = true := by simp [hz]
        have Hr : Hid (or2 a b = a) := by show _ = _; simp [or2, hz]
        clear hz
        go_wp2
        go_ret
        exact ⟨ret_int Hr.out.symm, rfl⟩
    | 1, _ =>
      have Ha := Lib.hid (ha.out (by omega))
      by_cases hz : b = 0
      · have hzb : (b != 0) = false := by simp [hz]
        have Hz := Lib.hid hz
        clear hz
        go_wp2
        go_round
        case rel => exact ⟨2, by omega, by go_num, fun _ => Ha.out, fun _ => Hz.out⟩
        case measure => simp [intOf]
      · have hzb : (b != 0) = true := by simp [hz]
        have Hr : Hid (or2 a b = b) := by show _ = _; simp [or2, Ha.out]
        clear hz
        go_wp2
        go_ret
        exact ⟨ret_int Hr.out.symm, rfl⟩
    | 2, _ =>
      have Hr : Hid (or2 a b = 0) := by show _ = _; simp [or2, ha.out (by omega), hb.out (by omega)]
      go_wp2
      go_ret
      exact ⟨ret_int Hr.out.symm, rfl⟩
def cmpM (f g : M) : Int := or2 (cmpI f.p g.p) (cmpL (imgs f 5) (imgs g 5))
theorem rd_six {w : World} {g : Nat} {f : M} {B : Nat} (h : Six w g f) (hg : g < B) : RdI w B (some ⟨g, 1, none⟩) (imgs f 5) := by
  refine ⟨by simp [cI], fun _ => ⟨g, 1, rfl, hg, fun j u hu => ?_⟩⟩
  have hj : j < (imgs f 5).length := by
    rcases Nat.lt_or_ge j (imgs f 5).length with h | h
    · exact h
    · rw [List.getElem?_eq_none (by rw [cI_length]; exact h)] at hu; cases hu
  rw [imgs_length] at hj
  match j, hj with
  | 0, _ => exact h.2.1.trans hu
  | 1, _ => exact h.2.2.1.trans hu
  | 2, _ => exact h.2.2.2.1.trans hu
  | 3, _ => exact h.2.2.2.2.1.trans hu
  | 4, _ => exact h.2.2.2.2.2.trans hu
theorem compareI_b (x y : Int) (w : World) : Calls Tryz.prog 78 #[I x, I y] w fun e w' => e = .returned (I (cmpI x y)) ∧ Below w.heap.size w w' :=
  (compareI_any x y w).mono fun _ _ h => ⟨h.1, h.2 ▸ Below.refl _ _⟩
theorem compareL_b (f g : M) (b d : Nat) (w : World) (hx : Six w b f) (hy : Six w d g) :
    Calls Tryz.prog 79 #[.slice (some ⟨b, 1, none⟩) 5 5, .slice (some ⟨d, 1, none⟩) 5 5] w fun e w' => e = .returned (I (cmpL (imgs f 5) (imgs g 5))) ∧ Below w.heap.size w w' :=
  (compareL_any _ _ 5 5 5 5 (imgs f 5) (imgs g 5) w (rd_six hx hx.lt) (rd_six hy hy.lt) (imgs_length _ _) (imgs_length _ _) (by omega) (by omega)).mono fun _ _ h => ⟨h.1, h.2 ▸ Below.refl _ _⟩
theorem compare_any (f g : M) (w : World) :
    Calls Tryz.prog 63 #[.agg (mc f), .agg (mc g)] w fun e w' => e = .returned (I (cmpM f g)) ∧ Below w.heap.size w w' := by
  have sl0 := slc0 w.heap.size
  have sl1 := slc0 (w.heap.size + 1)
  go_enter Tryz.func63, Tryz.ntmps63
  go_wp2_with fail
  refine wp_region_boxG (fun q => .slice (some ⟨q, 0, none⟩) 2 2) [] rfl (by kernel_rfl) (by kernel_rfl) (by kernel_rfl) (fun w' => Six w' w.heap.size f ∧ Six w' (w.heap.size + 1) g ∧ Below w.heap.size w w') _
    (fun q => [.pointer (some ⟨w.heap.size, 0, none⟩), I f.p, .pointer (some ⟨w.heap.size + 1, 0, none⟩), I g.p, I (cmpI f.p g.p), .pointer (some ⟨w.heap.size, 1, none⟩), .slice (some ⟨w.heap.size, 1, none⟩) 5 5, .pointer (some ⟨w.heap.size + 1, 1, none⟩), .slice (some ⟨w.heap.size + 1, 1, none⟩) 5 5, I (cmpL (imgs f 5) (imgs g 5)), .slice (some ⟨q, 0, none⟩) 2 2, I (cmpM f g), I (cmpM f g)])
    (by intro q; simp only [putAll, List.setIfInBounds_toArray, List.set_cons_succ, List.set_cons_zero]; rfl) ?hS 10 11 15 _ _ rfl rfl 3 #[I (cmpI f.p g.p), I (cmpL (imgs f 5) (imgs g 5))] #[I (cmpI f.p g.p), I (cmpL (imgs f 5) (imgs g 5))] (by kernel_rfl) (by kernel_rfl) (by decide) (fun _ _ => rfl) ?hop ?hal ?hst ?hQ
  case hS => exact ⟨Six.alloc (Blk.six (Blk.new w _ _)) _, Blk.six (Blk.new' _ _ _ (by simp)), by (repeat (first | with_reducible assumption | with_reducible exact Below.refl _ _ | with_reducible refine Below.setCell ?_ (by first | omega | (simp <;> omega)) _ | with_reducible refine Below.alloc ?_ (by first | omega | (simp <;> omega)) _ | with_reducible refine Below.drew ?_ | with_reducible refine Below.drewN ?_ _))⟩
  case hop =>
    intro q
    refine ⟨.inr ?_, .inr ?_, .inr ?_, .inr ?_, .inr ?_, .inr ?_, .inr ?_, .inr ?_, .inr ?_, .inr ?_, .inl rfl, .inl rfl, .inr ?_, trivial⟩
    · (with_reducible refine Fix.of ?_ ?_; rfl; intro w' hS; have s0 := hS.1; have s1 := hS.2.1; unfold Oper.wp; go_simp; first | done | exact Below.refl _ _ | exact ⟨hS, Below.refl _ _⟩ | exact ⟨hS.2.2, Below.refl _ _⟩ | exact ⟨hS.1, hS.2.1, Below.refl _ _⟩ | exact ⟨⟨hS.1, hS.2.1⟩, Below.refl _ _⟩ | exact ⟨hS.1, hS.2.1, hS.2.2, Below.refl _ _⟩)
    · (with_reducible refine Fix.of ?_ ?_; rfl; intro w' hS; have s0 := hS.1; have s1 := hS.2.1; unfold Oper.wp; go_simp; first | done | exact Below.refl _ _ | exact ⟨hS, Below.refl _ _⟩ | exact ⟨hS.2.2, Below.refl _ _⟩ | exact ⟨hS.1, hS.2.1, Below.refl _ _⟩ | exact ⟨⟨hS.1, hS.2.1⟩, Below.refl _ _⟩ | exact ⟨hS.1, hS.2.1, hS.2.2, Below.refl _ _⟩)
    · (with_reducible refine Fix.of ?_ ?_; rfl; intro w' hS; have s0 := hS.1; have s1 := hS.2.1; unfold Oper.wp; go_simp; first | done | exact Below.refl _ _ | exact ⟨hS, Below.refl _ _⟩ | exact ⟨hS.2.2, Below.refl _ _⟩ | exact ⟨hS.1, hS.2.1, Below.refl _ _⟩ | exact ⟨⟨hS.1, hS.2.1⟩, Below.refl _ _⟩ | exact ⟨hS.1, hS.2.1, hS.2.2, Below.refl _ _⟩)
    · (with_reducible refine Fix.of ?_ ?_; rfl; intro w' hS; have s0 := hS.1; have s1 := hS.2.1; unfold Oper.wp; go_simp; first | done | exact Below.refl _ _ | exact ⟨hS, Below.refl _ _⟩ | exact ⟨hS.2.2, Below.refl _ _⟩ | exact ⟨hS.1, hS.2.1, Below.refl _ _⟩ | exact ⟨⟨hS.1, hS.2.1⟩, Below.refl _ _⟩ | exact ⟨hS.1, hS.2.1, hS.2.2, Below.refl _ _⟩)
    · (with_reducible refine Fix.of ?_ ?_; rfl; intro w' hS; have s3 := Lib.hid hS; unfold Oper.wp; clear hS; go_simp; refine (compareI_b f.p g.p _).mono ?_; rintro e w1 ⟨rfl, hb⟩; exact ⟨rfl, ⟨s3.out.1.below hb s3.out.1.lt, s3.out.2.1.below hb s3.out.2.1.lt, s3.out.2.2.trans (hb.mono s3.out.2.2.size)⟩, hb⟩)
    · (with_reducible refine Fix.of ?_ ?_; rfl; intro w' hS; have s0 := hS.1; have s1 := hS.2.1; unfold Oper.wp; go_simp; first | done | exact Below.refl _ _ | exact ⟨hS, Below.refl _ _⟩ | exact ⟨hS.2.2, Below.refl _ _⟩ | exact ⟨hS.1, hS.2.1, Below.refl _ _⟩ | exact ⟨⟨hS.1, hS.2.1⟩, Below.refl _ _⟩ | exact ⟨hS.1, hS.2.1, hS.2.2, Below.refl _ _⟩)
    · (with_reducible refine Fix.of ?_ ?_; rfl; intro w' hS; have s0 := hS.1; have s1 := hS.2.1; unfold Oper.wp; go_simp; first | done | exact Below.refl _ _ | exact ⟨hS, Below.refl _ _⟩ | exact ⟨hS.2.2, Below.refl _ _⟩ | exact ⟨hS.1, hS.2.1, Below.refl _ _⟩ | exact ⟨⟨hS.1, hS.2.1⟩, Below.refl _ _⟩ | exact ⟨hS.1, hS.2.1, hS.2.2, Below.refl _ _⟩)
    · (with_reducible refine Fix.of ?_ ?_; rfl; intro w' hS; have s0 := hS.1; have s1 := hS.2.1; unfold Oper.wp; go_simp; first | done | exact Below.refl _ _ | exact ⟨hS, Below.refl _ _⟩ | exact ⟨hS.2.2, Below.refl _ _⟩ | exact ⟨hS.1, hS.2.1, Below.refl _ _⟩ | exact ⟨⟨hS.1, hS.2.1⟩, Below.refl _ _⟩ | exact ⟨hS.1, hS.2.1, hS.2.2, Below.refl _ _⟩)
    · (with_reducible refine Fix.of ?_ ?_; rfl; intro w' hS; have s0 := hS.1; have s1 := hS.2.1; unfold Oper.wp; go_simp; first | done | exact Below.refl _ _ | exact ⟨hS, Below.refl _ _⟩ | exact ⟨hS.2.2, Below.refl _ _⟩ | exact ⟨hS.1, hS.2.1, Below.refl _ _⟩ | exact ⟨⟨hS.1, hS.2.1⟩, Below.refl _ _⟩ | exact ⟨hS.1, hS.2.1, hS.2.2, Below.refl _ _⟩)
    · (with_reducible refine Fix.of ?_ ?_; rfl; intro w' hS; have s3 := Lib.hid hS; unfold Oper.wp; clear hS; go_simp; refine (compareL_b f g _ _ _ s3.out.1 s3.out.2.1).mono ?_; rintro e w1 ⟨rfl, hb⟩; exact ⟨rfl, ⟨s3.out.1.below hb s3.out.1.lt, s3.out.2.1.below hb s3.out.2.1.lt, s3.out.2.2.trans (hb.mono s3.out.2.2.size)⟩, hb⟩)
    · (with_reducible refine Fix.of ?_ ?_; rfl; intro w' hS; have s0 := hS.1; have s1 := hS.2.1; unfold Oper.wp; go_simp; first | done | exact Below.refl _ _ | exact ⟨hS, Below.refl _ _⟩ | exact ⟨hS.2.2, Below.refl _ _⟩ | exact ⟨hS.1, hS.2.1, Below.refl _ _⟩ | exact ⟨⟨hS.1, hS.2.1⟩, Below.refl _ _⟩ | exact ⟨hS.1, hS.2.1, hS.2.2, Below.refl _ _⟩)
  case hal =>
    intro q
    refine ⟨rfl, fun w' hS => ?_⟩
    have s3 := Lib.hid hS
    clear hS
    unfold Oper.wp
    go_simp
    exact ⟨s3.out.1.alloc _, s3.out.2.1.alloc _, s3.out.2.2.alloc s3.out.2.2.size _⟩
  case hst =>
    intro q
    refine ⟨rfl, fun w' hS hq hB => ?_⟩
    have s3 := Lib.hid hS
    clear hS
    unfold Oper.wp
    go_simp
    refine (or2_any q 2 _ _ _ (hB.cell 0) (hB.cell 1)).mono ?_
    rintro e w1 ⟨rfl, rfl⟩
    exact ⟨rfl, s3.out, hB, Below.refl _ _⟩
  case hQ =>
    intro q w' hS hq hB hbel
    have Hbel := Lib.hid hS.2.2
    clear hq hB hS hbel
    go_wp2
    go_ret
    exact ⟨rfl, Hbel.out⟩
end Go.Proofs.YtahamedecibmnaaGreat

namespace Go.Proofs.YtahamedecibmnaaGreat
open Go.RowKit
set_option maxRecDepth 100000
theorem gi_imgs (f : M) {k n : Nat} (h : k < n) : gi (imgs f n) k = f.at k := by simp [gi, imgs, List.getD, h]
theorem cmpM_p {f g : M} (h : f.p ≠ g.p) : cmpM f g = cmpI f.p g.p := by rw [cmpM, or2, if_neg (cmpI_ne.2 h)]
theorem cmpM_e {f g : M} (h : f.p = g.p) : cmpM f g = cmpL (imgs f 5) (imgs g 5) := by rw [cmpM, or2, if_pos (cmpI_eq h)]
theorem cmpM_at {f g : M} {k : Nat} (h : f.p = g.p) (hk : k < 5) (he : ∀ j, j < k → f.at j = g.at j) (hn : f.at k ≠ g.at k) : cmpM f g = cmpI (f.at k) (g.at k) := by
  rw [cmpM_e h, cmpL_at (k := k) (by rw [imgs_length]; exact hk) (by rw [imgs_length]; exact hk) (fun j hj => by rw [gi_imgs f (by omega), gi_imgs g (by omega)]; exact he j hj) (by rw [gi_imgs f hk, gi_imgs g hk]; exact hn), gi_imgs f hk, gi_imgs g hk]
theorem cmpM_same {f g : M} (h : f.p = g.p) (he : ∀ j, j < 5 → f.at j = g.at j) : cmpM f g = 0 := by
  rw [cmpM_e h, cmpL_pre fun j h1 _ => by rw [imgs_length] at h1; rw [gi_imgs f h1, gi_imgs g h1]; exact he j h1, imgs_length, imgs_length, cmpI_eq rfl]
theorem cmpM_cases (f g : M) : (f = g ∧ cmpM f g = 0) ∨ (f.p ≠ g.p ∧ cmpM f g = cmpI f.p g.p) ∨ ∃ k, k < 5 ∧ f.p = g.p ∧ (∀ j, j < k → f.at j = g.at j) ∧ f.at k ≠ g.at k ∧ cmpM f g = cmpI (f.at k) (g.at k) := by
  by_cases hp : f.p = g.p
  · by_cases he : ∀ j, j < 5 → f.at j = g.at j
    · exact .inl ⟨M.ext5 hp he, cmpM_same hp he⟩
    · have : ∃ k, k < 5 ∧ f.at k ≠ g.at k := by
        refine Classical.byContradiction fun hc => he fun j hj => Classical.byContradiction fun hne => hc ⟨j, hj, hne⟩
      obtain ⟨k, ⟨hk, hne⟩, hmin⟩ := exists_least this
      have hj : ∀ j, j < k → f.at j = g.at j := fun j hj => Classical.byContradiction fun hc => by have := hmin j ⟨by omega, hc⟩; omega
      exact .inr (.inr ⟨k, hk, hp, hj, hne, cmpM_at hp hk hj hne⟩)
  · exact .inr (.inl ⟨hp, cmpM_p hp⟩)
theorem cmpM_swap (f g : M) : cmpM g f = - cmpM f g := by
  rcases cmpM_cases f g with ⟨rfl, h⟩ | ⟨hp, h⟩ | ⟨k, hk, hp, he, hn, h⟩
  · rw [h]; rfl
  · rw [h, cmpM_p (Ne.symm hp), cmpI_swap]
  · rw [h, cmpM_at hp.symm hk (fun j hj => (he j hj).symm) (Ne.symm hn), cmpI_swap]
theorem cmpM_bd (f g : M) : -1 ≤ cmpM f g ∧ cmpM f g ≤ 1 := by
  rcases cmpM_cases f g with ⟨rfl, h⟩ | ⟨hp, h⟩ | ⟨k, hk, hp, he, hn, h⟩
  · rw [h]; omega
  · rw [h]; exact cmpI_bd _ _
  · rw [h]; exact cmpI_bd _ _
def lessM (f g : M) : Bool := decide (cmpM f g = -1)
theorem lessM_ne {f g : M} (h : f.p ≠ g.p) : lessM f g = decide (f.p < g.p) := by
  rw [lessM, cmpM_p h, Bool.eq_iff_iff]; simp [cmpI_neg]
theorem lessM_at {f g : M} {k : Nat} (h : f.p = g.p) (hk : k < 5) (he : ∀ j, j < k → f.at j = g.at j) (hn : f.at k ≠ g.at k) : lessM f g = decide (f.at k < g.at k) := by
  rw [lessM, cmpM_at h hk he hn, Bool.eq_iff_iff]; simp [cmpI_neg]
theorem lessM_same {f g : M} (hf : Valid f) (hg : Valid g) (h : f.p = g.p) {k : Nat} (hk : ¬ (k : Int) < f.p) (he : ∀ j, j < k → f.at j = g.at j) : lessM f g = false := by
  rw [lessM, cmpM_same h]
  · rfl
  · intro j hj
    by_cases hj' : j < k
    · exact he j hj'
    · rw [hf.out j hj (by omega), hg.out j hj (by omega)]
theorem l01Less_any (f g : M) (w : World) (hf : Valid f) (hg : Valid g) :
    Calls Tryz.prog 64 #[.agg (mc f), .agg (mc g)] w fun e w' => e = .returned (.bool (lessM f g)) ∧ Below w.heap.size w w' := by
  have hp1 := hf.p1
  have hp5 := hf.p5
  by_cases hp : f.p = g.p
  · have hpb : (f.p != g.p) = false := by simp [hp]
    have Hp := Lib.hid hp
    clear hp
    go_enter Tryz.func64, Tryz.ntmps64
    go_wp2
    go_loopw [5] (fun i wr => ∃ k : Nat, (k : Int) ≤ f.p ∧ i = .int .i64 k ∧ Hid (∀ j, j < k → f.at j = g.at j) ∧ Blk wr w.heap.size 26 (mc f) ∧ Blk wr (w.heap.size + 1) 26 (mc g) ∧ Below w.heap.size w wr) (fun i _ => 5 - (intOf i).toNat)
    case atStart => exact ⟨0, by omega, rfl, fun j hj => absurd hj (by omega), (Blk.new _ _ _).alloc _, Blk.new' _ _ _ (by simp), by (repeat (first | with_reducible assumption | with_reducible exact Below.refl _ _ | with_reducible refine Below.setCell ?_ (by first | omega | (simp <;> omega)) _ | with_reducible refine Below.alloc ?_ (by first | omega | (simp <;> omega)) _ | with_reducible refine Below.drew ?_ | with_reducible refine Below.drewN ?_ _))⟩
    case round =>
      obtain ⟨k, hk, rfl, hs, hB1, hB2, hbel⟩ := hrel
      have c0 : wr.cell? ⟨w.heap.size, 0, none⟩ = some (I f.p) := hB1.cell 0
      by_cases hlt : (k : Int) < f.p
      · have hk5 : k < 5 := by omega
        have c1 := hB1.at_ hk5
        have c2 := hB2.at_ hk5
        have h0 : (0 : Int) ≤ (k : Int) := by omega
        have h1 : (k : Int) < 5 := by omega
        by_cases he : f.at k = g.at k
        · have heb : (f.at k != g.at k) = false := by simp [he]
          have Hs : Hid (∀ j, j < k + 1 → f.at j = g.at j) := by
            intro j hj; by_cases e : j = k
            · subst e; exact he
            · exact hs.out j (by omega)
          clear he
          go_wp2_with fail
          go_quiet (fail)
          go_wp2
          go_roundw
          case rel => exact ⟨k + 1, by omega, by go_num, Hs.out, hB1.drewN _, hB2.drewN _, hbel.drewN _⟩
          case measure => simp [intOf]; omega
        · have heb : (f.at k != g.at k) = true := by simp [he]
          have Hs : Hid (lessM f g = decide (f.at k < g.at k)) := lessM_at Hp.out hk5 hs.out he
          clear he
          cases hd : decide (f.at k < g.at k)
          all_goals
            go_wp2_with fail
            go_quiet (fail)
            go_wp2_with fail
            replace hB1 := hB1.drewN nq
            replace hB2 := hB2.drewN nq
            replace hbel := hbel.drewN nq
            clear c0 c1 c2
            generalize wr.drewN nq = w9 at hB1 hB2 hbel ⊢
            have c1 := hB1.at_ hk5
            have c2 := hB2.at_ hk5
            go_quiet (fail)
            go_wp2
            go_ret
            exact ⟨ret_bool (Hs.out.trans hd).symm, hbel.drewN _⟩
      · have Hs : Hid (lessM f g = false) := lessM_same hf hg Hp.out hlt hs.out
        go_wp2
        go_ret
        exact ⟨ret_bool Hs.out.symm, hbel⟩
  · have hpb : (f.p != g.p) = true := by simp [hp]
    have Hs := Lib.hid (lessM_ne hp)
    clear hp
    cases hd : decide (f.p < g.p)
    all_goals
      go_enter Tryz.func64, Tryz.ntmps64
      go_wp2
      go_ret
      exact ⟨ret_bool (Hs.out.trans hd).symm, by (repeat (first | with_reducible assumption | with_reducible exact Below.refl _ _ | with_reducible refine Below.setCell ?_ (by first | omega | (simp <;> omega)) _ | with_reducible refine Below.alloc ?_ (by first | omega | (simp <;> omega)) _ | with_reducible refine Below.drew ?_ | with_reducible refine Below.drewN ?_ _))⟩
def cmpC (f g : M) : Int := cInv (isMap f && isMap g)
def cmpR (f g : M) : Int := if isMap f && isMap g then cmpM f g else 0
theorem cmpR_bad1 {f g : M} (h : isMap f = false) : cmpR f g = 0 ∧ cmpC f g = 1 := by simp [cmpR, cmpC, h, cInv]
theorem cmpR_bad2 {f g : M} (h : isMap g = false) : cmpR f g = 0 ∧ cmpC f g = 1 := by simp [cmpR, cmpC, h, cInv]
theorem cmpR_good {f g : M} (h : isMap f = true) (h2 : isMap g = true) : cmpR f g = cmpM f g ∧ cmpC f g = 0 := by simp [cmpR, cmpC, h, h2, cInv]
theorem ImplCompareMaps_any (f g : M) (w : World) :
    Calls Tryz.prog 28 #[.agg (mc f), .agg (mc g)] w fun e w' => e = .returned (.tuple #[I (cmpR f g), I (cmpC f g)]) ∧ Below w.heap.size w w' := by
  cases h1 : isMap f
  · have Hr := Lib.hid (cmpR_bad1 (g := g) h1)
    go_enter Tryz.func28, Tryz.ntmps28
    go_wp2_with fail
    refine (isMap_any _ _).mono ?_
    rintro e w1 ⟨rfl, hb⟩
    have hl : Below w.heap.size w w1 := Below.trans (by (repeat (first | with_reducible assumption | with_reducible exact Below.refl _ _ | with_reducible refine Below.setCell ?_ (by first | omega | (simp <;> omega)) _ | with_reducible refine Below.alloc ?_ (by first | omega | (simp <;> omega)) _ | with_reducible refine Below.drew ?_ | with_reducible refine Below.drewN ?_ _))) (hb.mono (by simp; try omega))
    rw [h1]
    go_wp2
    go_ret2
    exact ⟨by rw [Hr.out.1, Hr.out.2] <;> rfl, hl⟩
  · cases h2 : isMap g
    · have Hr := Lib.hid (cmpR_bad2 (f := f) h2)
      go_enter Tryz.func28, Tryz.ntmps28
      go_wp2_with fail
      refine (isMap_any _ _).mono ?_
      rintro e w1 ⟨rfl, hb⟩
      have hl : Below w.heap.size w w1 := Below.trans (by (repeat (first | with_reducible assumption | with_reducible exact Below.refl _ _ | with_reducible refine Below.setCell ?_ (by first | omega | (simp <;> omega)) _ | with_reducible refine Below.alloc ?_ (by first | omega | (simp <;> omega)) _ | with_reducible refine Below.drew ?_ | with_reducible refine Below.drewN ?_ _))) (hb.mono (by simp; try omega))
      have hs : Six w1 (w.heap.size + 1) g := Six.below (Blk.six (Blk.new' _ _ _ (by simp))) hb (by simp)
      rw [h1]
      clear hb
      go_wp2_with fail
      refine (isMap_any _ _).mono ?_
      rintro e w2 ⟨rfl, hb⟩
      replace hl := hl.trans (hb.mono hl.size)
      rw [h2]
      go_wp2
      go_ret2
      exact ⟨by rw [Hr.out.1, Hr.out.2] <;> rfl, hl⟩
    · have hf := (isMap_iff f).1 h1
      have hg := (isMap_iff g).1 h2
      have Hr := Lib.hid (cmpR_good h1 h2)
      go_enter Tryz.func28, Tryz.ntmps28
      go_wp2_with fail
      refine (isMap_any _ _).mono ?_
      rintro e w1 ⟨rfl, hb⟩
      have hl : Below w.heap.size w w1 := Below.trans (by (repeat (first | with_reducible assumption | with_reducible exact Below.refl _ _ | with_reducible refine Below.setCell ?_ (by first | omega | (simp <;> omega)) _ | with_reducible refine Below.alloc ?_ (by first | omega | (simp <;> omega)) _ | with_reducible refine Below.drew ?_ | with_reducible refine Below.drewN ?_ _))) (hb.mono (by simp; try omega))
      have hs : Six w1 (w.heap.size + 1) g := Six.below (Blk.six (Blk.new' _ _ _ (by simp))) hb (by simp)
      have hs' : Six w1 w.heap.size f := Six.below (Blk.six ((Blk.new _ _ _).alloc _)) hb (by simp; try omega)
      rw [h1]
      clear hb
      go_wp2_with fail
      refine (isMap_any _ _).mono ?_
      rintro e w2 ⟨rfl, hb⟩
      replace hs := hs.below hb hs.lt
      replace hs' := hs'.below hb hs'.lt
      replace hl := hl.trans (hb.mono hl.size)
      rw [h2]
      clear hb
      go_wp2_with fail
      refine (compare_any f g _).mono ?_
      rintro e w3 ⟨rfl, hb⟩
      replace hl := hl.trans (hb.mono hl.size)
      go_wp2
      go_ret2
      exact ⟨by rw [Hr.out.1, Hr.out.2] <;> rfl, hl⟩
theorem SpecCompareMaps_any (f g : M) (w : World) :
    Calls Tryz.prog 29 #[.agg (mc f), .agg (mc g)] w fun e w' => e = .returned (.tuple #[I (cmpR f g), I (cmpC f g)]) ∧ Below w.heap.size w w' := by
  cases h1 : isMap f
  · have Hr := Lib.hid (cmpR_bad1 (g := g) h1)
    go_enter Tryz.func29, Tryz.ntmps29
    go_wp2_with fail
    refine (l01Is_any _ _).mono ?_
    rintro e w1 ⟨rfl, hb⟩
    have hl : Below w.heap.size w w1 := Below.trans (by (repeat (first | with_reducible assumption | with_reducible exact Below.refl _ _ | with_reducible refine Below.setCell ?_ (by first | omega | (simp <;> omega)) _ | with_reducible refine Below.alloc ?_ (by first | omega | (simp <;> omega)) _ | with_reducible refine Below.drew ?_ | with_reducible refine Below.drewN ?_ _))) (hb.mono (by simp; try omega))
    rw [h1]
    go_wp2
    go_ret2
    exact ⟨by rw [Hr.out.1, Hr.out.2] <;> rfl, hl⟩
  · cases h2 : isMap g
    · have Hr := Lib.hid (cmpR_bad2 (f := f) h2)
      go_enter Tryz.func29, Tryz.ntmps29
      go_wp2_with fail
      refine (l01Is_any _ _).mono ?_
      rintro e w1 ⟨rfl, hb⟩
      have hl : Below w.heap.size w w1 := Below.trans (by (repeat (first | with_reducible assumption | with_reducible exact Below.refl _ _ | with_reducible refine Below.setCell ?_ (by first | omega | (simp <;> omega)) _ | with_reducible refine Below.alloc ?_ (by first | omega | (simp <;> omega)) _ | with_reducible refine Below.drew ?_ | with_reducible refine Below.drewN ?_ _))) (hb.mono (by simp; try omega))
      have hs : Six w1 (w.heap.size + 1) g := Six.below (Blk.six (Blk.new' _ _ _ (by simp))) hb (by simp)
      rw [h1]
      clear hb
      go_wp2_with fail
      refine (l01Is_any _ _).mono ?_
      rintro e w2 ⟨rfl, hb⟩
      replace hl := hl.trans (hb.mono hl.size)
      rw [h2]
      go_wp2
      go_ret2
      exact ⟨by rw [Hr.out.1, Hr.out.2] <;> rfl, hl⟩
    · have hf := (isMap_iff f).1 h1
      have hg := (isMap_iff g).1 h2
      have Hr := Lib.hid (cmpR_good h1 h2)
      go_enter Tryz.func29, Tryz.ntmps29
      go_wp2_with fail
      refine (l01Is_any _ _).mono ?_
      rintro e w1 ⟨rfl, hb⟩
      have hl : Below w.heap.size w w1 := Below.trans (by (repeat (first | with_reducible assumption | with_reducible exact Below.refl _ _ | with_reducible refine Below.setCell ?_ (by first | omega | (simp <;> omega)) _ | with_reducible refine Below.alloc ?_ (by first | omega | (simp <;> omega)) _ | with_reducible refine Below.drew ?_ | with_reducible refine Below.drewN ?_ _))) (hb.mono (by simp; try omega))
      have hs : Six w1 (w.heap.size + 1) g := Six.below (Blk.six (Blk.new' _ _ _ (by simp))) hb (by simp)
      have hs' : Six w1 w.heap.size f := Six.below (Blk.six ((Blk.new _ _ _).alloc _)) hb (by simp; try omega)
      rw [h1]
      clear hb
      go_wp2_with fail
      refine (l01Is_any _ _).mono ?_
      rintro e w2 ⟨rfl, hb⟩
      replace hs := hs.below hb hs.lt
      replace hs' := hs'.below hb hs'.lt
      replace hl := hl.trans (hb.mono hl.size)
      rw [h2]
      clear hb
      have hbd := cmpM_bd f g
      have hsw := cmpM_swap f g
      cases hl1 : lessM f g
      · cases hl2 : lessM g f
        · have H0 : Hid (cmpM f g = 0) := by
            have a1 := of_decide_eq_false hl1; have a2 := of_decide_eq_false hl2
            show _ = _; omega
          clear hbd hsw
          go_wp2_with fail
          refine (l01Less_any f g _ hf hg).mono ?_
          rintro e w3 ⟨rfl, hb⟩
          replace hs := hs.below hb hs.lt
          replace hs' := hs'.below hb hs'.lt
          replace hl := hl.trans (hb.mono hl.size)
          rw [hl1]
          clear hb
          go_wp2_with fail
          refine (l01Less_any g f _ hg hf).mono ?_
          rintro e w4 ⟨rfl, hb⟩
          replace hl := hl.trans (hb.mono hl.size)
          rw [hl2]
          clear hb
          go_wp2
          go_ret2
          exact ⟨by rw [Hr.out.1, Hr.out.2, H0.out] <;> rfl, hl⟩
        · have H0 : Hid (cmpM f g = 1) := by
            have a2 := of_decide_eq_true hl2
            show _ = _; omega
          clear hbd hsw
          go_wp2_with fail
          refine (l01Less_any f g _ hf hg).mono ?_
          rintro e w3 ⟨rfl, hb⟩
          replace hs := hs.below hb hs.lt
          replace hs' := hs'.below hb hs'.lt
          replace hl := hl.trans (hb.mono hl.size)
          rw [hl1]
          clear hb
          go_wp2_with fail
          refine (l01Less_any g f _ hg hf).mono ?_
          rintro e w4 ⟨rfl, hb⟩
          replace hl := hl.trans (hb.mono hl.size)
          rw [hl2]
          clear hb
          go_wp2
          go_ret2
          exact ⟨by rw [Hr.out.1, Hr.out.2, H0.out] <;> rfl, hl⟩
      · have H0 : Hid (cmpM f g = -1) := (of_decide_eq_true hl1 : cmpM f g = -1)
        clear hbd hsw
        go_wp2_with fail
        refine (l01Less_any f g _ hf hg).mono ?_
        rintro e w3 ⟨rfl, hb⟩
        replace hl := hl.trans (hb.mono hl.size)
        rw [hl1]
        clear hb
        go_wp2
        go_ret2
        exact ⟨by rw [Hr.out.1, Hr.out.2, H0.out] <;> rfl, hl⟩
end Go.Proofs.YtahamedecibmnaaGreat

namespace Go.Proofs.YtahamedecibmnaaGreat
open Go.RowKit
set_option maxRecDepth 100000
/-! ### the order -/
abbrev Asc (l : List M) : Prop := l.Pairwise fun f g => lessM f g = true
/-! ### the search -/
abbrev Met := List (M × List Int)
def pm (ps : Met) (i : Nat) : M × List Int := ps.getD i (M0, [])
theorem pm_eq {ps : Met} {i : Nat} (h : i < ps.length) : pm ps i = ps[i] := by simp [pm, List.getD, h]
theorem pm_app {ps qs : Met} {i : Nat} (h : i < ps.length) : pm (ps ++ qs) i = pm ps i := by
  rw [pm_eq h, pm_eq (by simp; omega), List.getElem_append_left h]
inductive Mon (gens : List M) (n : Int) : M → Prop
  | one : Mon gens n (one n)
  | snoc {f g : M} : Mon gens n f → g ∈ gens → Mon gens n (mul f g)
def Pts (n : Int) (gens : List M) : Prop := ∀ g ∈ gens, Valid g ∧ g.p = n
section
variable {gens : List M} {n : Int}
theorem Mon.ok (h1 : 1 ≤ n) (h5 : n ≤ 5) (hG : Pts n gens) {f : M} (h : Mon gens n f) : Valid f ∧ f.p = n := by
  induction h with
  | one => exact ⟨Valid.one h1 h5, rfl⟩
  | snoc _ hg ih => exact ⟨Valid.mul ih.1 (hG _ hg).1 (by rw [ih.2, (hG _ hg).2]), ih.2⟩
theorem Mon.mul (h1 : 1 ≤ n) (h5 : n ≤ 5) (hG : Pts n gens) {f g : M} (hf : Mon gens n f) (hg : Mon gens n g) : Mon gens n (mul f g) := by
  induction hg with
  | one =>
    have := mul_one' (hf.ok h1 h5 hG).1
    rw [(hf.ok h1 h5 hG).2] at this
    rwa [this]
  | snoc h hg ih =>
    rw [← mul_assoc (hf.ok h1 h5 hG).1 (h.ok h1 h5 hG).1 (by rw [(hf.ok h1 h5 hG).2, (h.ok h1 h5 hG).2])]
    exact .snoc ih hg
def prd (gens : List M) (n : Int) (u : List Int) : M := u.foldl (fun f z => Go.Proofs.YtahamedecibmnaaGreat.mul f (gm gens z.toNat)) (Go.Proofs.YtahamedecibmnaaGreat.one n)
theorem prd_nil : prd gens n [] = Go.Proofs.YtahamedecibmnaaGreat.one n := rfl
theorem prd_snoc (u : List Int) (z : Int) : prd gens n (u ++ [z]) = Go.Proofs.YtahamedecibmnaaGreat.mul (prd gens n u) (gm gens z.toNat) := by simp [prd]
structure Good (gens : List M) (n : Int) (ps : Met) : Prop where
  nd : (ps.map (·.1)).Nodup
  len : ps.length ≤ 300
  mon : ∀ q ∈ ps, Mon gens n q.1
  wd : ∀ q ∈ ps, q.1 = prd gens n q.2 ∧ ∀ z ∈ q.2, 0 ≤ z ∧ z < gens.length
  fst : ∃ qs, ps = (Go.Proofs.YtahamedecibmnaaGreat.one n, []) :: qs ∧ ∀ q ∈ qs, q.2 ≠ []
  wl : ∀ i, i < ps.length → (pm ps i).2.length ≤ i
theorem Good.start (gens : List M) (n : Int) : Good gens n [(Go.Proofs.YtahamedecibmnaaGreat.one n, [])] :=
  ⟨by simp, by simp, by simp; exact .one, by simp [prd_nil], ⟨[], rfl, by simp⟩, fun i hi => by
    have e : i = 0 := by simp at hi; omega
    rw [e]
    simp [pm]⟩
theorem Good.add {ps : Met} (h : Good gens n ps) {f : M} {u : List Int} {k : Nat} (hf : (f, u) ∈ ps) (hk : k < gens.length) (hn : Go.Proofs.YtahamedecibmnaaGreat.mul f (gm gens k) ∉ ps.map (·.1)) (hl : ps.length ≠ 300) :
    Good gens n (ps ++ [(Go.Proofs.YtahamedecibmnaaGreat.mul f (gm gens k), u ++ [(k : Int)])]) := by
  have hg : gm gens k ∈ gens := by rw [gm_eq hk]; exact List.getElem_mem hk
  refine ⟨?_, by have := h.len; simp; omega, ?_, ?_, ?_, ?_⟩
  · rw [List.map_append, List.nodup_append]
    refine ⟨h.nd, by simp, fun a ha b hb => ?_⟩
    simp at hb
    subst hb
    rintro rfl
    exact hn ha
  · intro q hq
    rcases List.mem_append.1 hq with hq | hq
    · exact h.mon q hq
    · simp at hq; subst hq; exact .snoc (h.mon _ hf) hg
  · intro q hq
    rcases List.mem_append.1 hq with hq | hq
    · exact h.wd q hq
    · simp at hq; subst hq
      obtain ⟨e, hz⟩ := h.wd _ hf
      refine ⟨by rw [prd_snoc, ← e]; simp, fun z hz' => ?_⟩
      rcases List.mem_append.1 hz' with hz' | hz'
      · exact hz z hz'
      · simp at hz'; subst hz'; omega
  · obtain ⟨qs, e, hq⟩ := h.fst
    refine ⟨qs ++ [_], by rw [e]; rfl, fun q hq' => ?_⟩
    rcases List.mem_append.1 hq' with hq' | hq'
    · exact hq q hq'
    · simp at hq'; subst hq'; simp
  · intro i hi
    by_cases e : i = ps.length
    · subst e
      obtain ⟨a, ha, e2⟩ := List.getElem_of_mem hf
      have := h.wl a ha
      rw [pm_eq ha, e2] at this
      rw [pm_eq (by simp), List.getElem_append_right (by simp)]
      simp
      simp at this
      omega
    · have hi' : i < ps.length := by simp at hi; omega
      rw [pm_app hi']
      exact h.wl i hi'
theorem nodup_sub_len {α : Type} [DecidableEq α] : ∀ {a b : List α}, a.Nodup → (∀ x ∈ a, x ∈ b) → a.length ≤ b.length
  | [], _, _, _ => by simp
  | x :: xs, b, h, hs => by
    obtain ⟨h1, h2⟩ := List.nodup_cons.1 h
    have hx : x ∈ b := hs x (by simp)
    have := nodup_sub_len (b := b.erase x) h2 fun y hy => (List.mem_erase_of_ne (fun e => h1 (by rw [← e]; exact hy))).2 (hs y (by simp [hy]))
    rw [List.length_erase_of_mem hx] at this
    have h0 : 0 < b.length := List.length_pos_of_mem hx
    simp; omega
end
set_option maxRecDepth 100000
def fk (p : Nat → Bool) (i : Nat) : Nat := ((List.range i).find? p).getD i
theorem fk_eq {p : Nat → Bool} {i k : Nat} (hk : k < i) (hp : p k = true) (hm : ∀ j, j < k → p j = false) : fk p i = k := by
  have : (List.range i).find? p = some k := by
    rw [List.find?_range_eq_some]
    exact ⟨hp, by simpa using hk, fun j hj => by simp [hm j hj]⟩
  rw [fk, this]; rfl
theorem fk_none {p : Nat → Bool} {i : Nat} (h : ∀ j, j < i → p j = false) : fk p i = i := by
  have : (List.range i).find? p = none := by
    rw [List.find?_eq_none]
    intro j hj
    simp [h j (by simpa using hj)]
  rw [fk, this]; rfl
theorem fk_cases (p : Nat → Bool) (i : Nat) : (fk p i < i ∧ p (fk p i) = true ∧ ∀ j, j < fk p i → p j = false) ∨ (fk p i = i ∧ ∀ j, j < i → p j = false) := by
  cases h : (List.range i).find? p with
  | none =>
    rw [List.find?_eq_none] at h
    have h' : ∀ j, j < i → p j = false := fun j hj => by simpa using h j (by simpa using hj)
    exact .inr ⟨fk_none h', h'⟩
  | some k =>
    rw [List.find?_range_eq_some] at h
    obtain ⟨h1, h2, h3⟩ := h
    have hk : k < i := by simpa using h2
    have h3' : ∀ j, j < k → p j = false := fun j hj => by simpa using h3 j hj
    have e := fk_eq hk h1 h3'
    rw [e]
    exact .inl ⟨hk, h1, h3'⟩
def dst : List Int → List Int → List Int
  | acc, [] => acc
  | acc, z :: zs => if z ∈ acc then dst acc zs else dst (acc ++ [z]) zs
set_option maxRecDepth 100000
structure Mnd (n : Int) (E : List M) : Prop where
  asc : Asc E
  ok : ∀ f ∈ E, Valid f ∧ f.p = n
  oneE : Go.Proofs.YtahamedecibmnaaGreat.one n ∈ E
  mulE : ∀ f ∈ E, ∀ g ∈ E, Go.Proofs.YtahamedecibmnaaGreat.mul f g ∈ E
section
variable {n : Int} {E : List M}
theorem Mnd.assoc (h : Mnd n E) {f g x : M} (hf : f ∈ E) (hg : g ∈ E) : mul (mul f g) x = mul f (mul g x) :=
  mul_assoc (h.ok f hf).1 (h.ok g hg).1 (by rw [(h.ok f hf).2, (h.ok g hg).2])
theorem Mnd.mul1 (h : Mnd n E) {f : M} (hf : f ∈ E) : mul f (Go.Proofs.YtahamedecibmnaaGreat.one n) = f := by
  have := mul_one' (h.ok f hf).1
  rwa [(h.ok f hf).2] at this
theorem Mnd.one1 (h : Mnd n E) {f : M} (hf : f ∈ E) : mul (Go.Proofs.YtahamedecibmnaaGreat.one n) f = f := by
  have := one_mul' (h.ok f hf).1
  rwa [(h.ok f hf).2] at this
def RR (E : List M) (f g : M) : Prop := ∃ x ∈ E, mul f x = g
def LL (E : List M) (f g : M) : Prop := ∃ x ∈ E, mul x f = g
def JJ (E : List M) (f g : M) : Prop := ∃ x ∈ E, ∃ y ∈ E, mul x (mul f y) = g
instance (f g : M) : Decidable (RR E f g) := by unfold RR; infer_instance
instance (f g : M) : Decidable (LL E f g) := by unfold LL; infer_instance
instance (f g : M) : Decidable (JJ E f g) := by unfold JJ; infer_instance
theorem RR.mem (h : Mnd n E) {f g : M} (hf : f ∈ E) (hr : RR E f g) : g ∈ E := by
  obtain ⟨x, hx, rfl⟩ := hr; exact h.mulE _ hf _ hx
theorem LL.mem (h : Mnd n E) {f g : M} (hf : f ∈ E) (hr : LL E f g) : g ∈ E := by
  obtain ⟨x, hx, rfl⟩ := hr; exact h.mulE _ hx _ hf
theorem JJ.mem (h : Mnd n E) {f g : M} (hf : f ∈ E) (hr : JJ E f g) : g ∈ E := by
  obtain ⟨x, hx, y, hy, rfl⟩ := hr; exact h.mulE _ hx _ (h.mulE _ hf _ hy)
theorem RR.refl (h : Mnd n E) {f : M} (hf : f ∈ E) : RR E f f := ⟨_, h.oneE, h.mul1 hf⟩
theorem LL.refl (h : Mnd n E) {f : M} (hf : f ∈ E) : LL E f f := ⟨_, h.oneE, h.one1 hf⟩
theorem JJ.refl (h : Mnd n E) {f : M} (hf : f ∈ E) : JJ E f f := ⟨_, h.oneE, _, h.oneE, by rw [h.mul1 hf, h.one1 hf]⟩
theorem RR.trans (h : Mnd n E) {f g k : M} (hf : f ∈ E) (h1 : RR E f g) (h2 : RR E g k) : RR E f k := by
  obtain ⟨x, hx, rfl⟩ := h1; obtain ⟨y, hy, rfl⟩ := h2
  exact ⟨_, h.mulE _ hx _ hy, (h.assoc hf hx).symm⟩
theorem LL.trans (h : Mnd n E) {f g k : M} (h1 : LL E f g) (h2 : LL E g k) : LL E f k := by
  obtain ⟨x, hx, rfl⟩ := h1; obtain ⟨y, hy, rfl⟩ := h2
  exact ⟨_, h.mulE _ hy _ hx, h.assoc hy hx⟩
theorem JJ.trans (h : Mnd n E) {f g k : M} (hf : f ∈ E) (h1 : JJ E f g) (h2 : JJ E g k) : JJ E f k := by
  obtain ⟨x, hx, y, hy, rfl⟩ := h1; obtain ⟨u, hu, v, hv, rfl⟩ := h2
  refine ⟨_, h.mulE _ hu _ hx, _, h.mulE _ hy _ hv, ?_⟩
  rw [h.assoc hu hx, h.assoc hx (h.mulE _ hf _ hy), h.assoc hf hy]
def eqR (E : List M) (f g : M) : Prop := RR E f g ∧ RR E g f
def eqL (E : List M) (f g : M) : Prop := LL E f g ∧ LL E g f
def eqJ (E : List M) (f g : M) : Prop := JJ E f g ∧ JJ E g f
def eqH (E : List M) (f g : M) : Prop := eqL E f g ∧ eqR E f g
instance (f g : M) : Decidable (eqR E f g) := by unfold eqR; infer_instance
instance (f g : M) : Decidable (eqL E f g) := by unfold eqL; infer_instance
instance (f g : M) : Decidable (eqJ E f g) := by unfold eqJ; infer_instance
instance (f g : M) : Decidable (eqH E f g) := by unfold eqH; infer_instance
theorem eqR.symm {f g : M} (h : eqR E f g) : eqR E g f := ⟨h.2, h.1⟩
theorem eqL.symm {f g : M} (h : eqL E f g) : eqL E g f := ⟨h.2, h.1⟩
theorem eqJ.symm {f g : M} (h : eqJ E f g) : eqJ E g f := ⟨h.2, h.1⟩
theorem eqH.symm {f g : M} (h : eqH E f g) : eqH E g f := ⟨h.1.symm, h.2.symm⟩
theorem eqR.trans (h : Mnd n E) {f g k : M} (hf : f ∈ E) (h1 : eqR E f g) (h2 : eqR E g k) : eqR E f k :=
  ⟨h1.1.trans h hf h2.1, h2.2.trans h (h2.1.mem h (h1.1.mem h hf)) h1.2⟩
theorem eqL.trans (h : Mnd n E) {f g k : M} (h1 : eqL E f g) (h2 : eqL E g k) : eqL E f k := ⟨h1.1.trans h h2.1, h2.2.trans h h1.2⟩
theorem eqJ.trans (h : Mnd n E) {f g k : M} (hf : f ∈ E) (h1 : eqJ E f g) (h2 : eqJ E g k) : eqJ E f k :=
  ⟨h1.1.trans h hf h2.1, h2.2.trans h (h2.1.mem h (h1.1.mem h hf)) h1.2⟩
theorem eqH.trans (h : Mnd n E) {f g k : M} (hf : f ∈ E) (h1 : eqH E f g) (h2 : eqH E g k) : eqH E f k := ⟨h1.1.trans h h2.1, h1.2.trans h hf h2.2⟩
theorem eqR.refl (h : Mnd n E) {f : M} (hf : f ∈ E) : eqR E f f := ⟨RR.refl h hf, RR.refl h hf⟩
theorem eqL.refl (h : Mnd n E) {f : M} (hf : f ∈ E) : eqL E f f := ⟨LL.refl h hf, LL.refl h hf⟩
theorem eqJ.refl (h : Mnd n E) {f : M} (hf : f ∈ E) : eqJ E f f := ⟨JJ.refl h hf, JJ.refl h hf⟩
theorem eqH.refl (h : Mnd n E) {f : M} (hf : f ∈ E) : eqH E f f := ⟨eqL.refl h hf, eqR.refl h hf⟩
end
set_option maxRecDepth 100000
/-! ### the number of a map -/
def num (f : M) : Int := (((f.t0 * 5 + f.t1) * 5 + f.t2) * 5 + f.t3) * 5 + f.t4
theorem num_bd {f : M} (hf : Valid f) : 0 ≤ num f ∧ num f < 3125 := by
  have h0 := hf.nn (k := 0) (by omega); have h1 := hf.nn (k := 1) (by omega); have h2 := hf.nn (k := 2) (by omega); have h3 := hf.nn (k := 3) (by omega); have h4 := hf.nn (k := 4) (by omega)
  simp only [M.at] at h0 h1 h2 h3 h4
  unfold num
  omega
theorem digit {x y a b : Int} (ha : 0 ≤ a ∧ a < 5) (hb : 0 ≤ b ∧ b < 5) (h : x * 5 + a = y * 5 + b) : x = y ∧ a = b := by omega
theorem num_inj {f g : M} (hf : Valid f) (hg : Valid g) (hp : f.p = g.p) (h : num f = num g) : f = g := by
  have a0 := hf.nn (k := 0) (by omega); have a1 := hf.nn (k := 1) (by omega); have a2 := hf.nn (k := 2) (by omega); have a3 := hf.nn (k := 3) (by omega); have a4 := hf.nn (k := 4) (by omega)
  have b0 := hg.nn (k := 0) (by omega); have b1 := hg.nn (k := 1) (by omega); have b2 := hg.nn (k := 2) (by omega); have b3 := hg.nn (k := 3) (by omega); have b4 := hg.nn (k := 4) (by omega)
  simp only [M.at] at a0 a1 a2 a3 a4 b0 b1 b2 b3 b4
  unfold num at h
  obtain ⟨h, e4⟩ := digit a4 b4 h
  obtain ⟨h, e3⟩ := digit a3 b3 h
  obtain ⟨h, e2⟩ := digit a2 b2 h
  obtain ⟨e0, e1⟩ := digit a1 b1 h
  obtain ⟨p, x0, x1, x2, x3, x4⟩ := f
  obtain ⟨q, y0, y1, y2, y3, y4⟩ := g
  simp only at hp e0 e1 e2 e3 e4
  subst hp e0 e1 e2 e3 e4
  rfl
/-! ### places -/
def ix (E : List M) (f : M) : Nat := E.idxOf f
theorem ix_lt {E : List M} {f : M} (h : f ∈ E) : ix E f < E.length := List.idxOf_lt_length_of_mem h
theorem gm_ix {E : List M} {f : M} (h : f ∈ E) : gm E (ix E f) = f := by
  rw [gm_eq (ix_lt h)]
  exact List.getElem_idxOf (ix_lt h)
theorem gm_mem {E : List M} {i : Nat} (h : i < E.length) : gm E i ∈ E := by rw [gm_eq h]; exact List.getElem_mem h
theorem gm_inj {E : List M} (hn : E.Nodup) {i k : Nat} (hi : i < E.length) (hk : k < E.length) (h : gm E i = gm E k) : i = k := by
  rw [gm_eq hi, gm_eq hk] at h
  exact (List.getElem_inj hn).1 h
theorem ix_gm {E : List M} (hn : E.Nodup) {i : Nat} (hi : i < E.length) : ix E (gm E i) = i := gm_inj hn (ix_lt (gm_mem hi)) hi (gm_ix (gm_mem hi))
def plOf (E : List M) (f : M) : Int := if f ∈ E then (ix E f : Int) + 1 else 0
theorem plOf_in {E : List M} {f : M} (h : f ∈ E) : plOf E f = (ix E f : Int) + 1 := if_pos h
theorem plOf_out {E : List M} {f : M} (h : f ∉ E) : plOf E f = 0 := if_neg h
theorem ix_app {E : List M} {f g : M} (h : f ∈ E) : ix (E ++ [g]) f = ix E f := by
  unfold ix; rw [List.idxOf_append]; simp [h]
theorem ix_last {E : List M} {g : M} (h : g ∉ E) : ix (E ++ [g]) g = E.length := by
  unfold ix; rw [List.idxOf_append]; simp [h]
theorem plOf_app {E : List M} {f g : M} (hg : g ∉ E) : plOf (E ++ [g]) f = if f = g then (E.length : Int) + 1 else plOf E f := by
  by_cases e : f = g
  · subst e; rw [if_pos rfl, plOf_in (by simp), ix_last hg]
  · rw [if_neg e]
    by_cases h : f ∈ E
    · rw [plOf_in (by simp [h]), plOf_in h, ix_app h]
    · rw [plOf_out (by simp [h, e]), plOf_out h]
def Plc (n : Int) (E : List M) (pl : Nat → Int) : Prop := ∀ f, Valid f → f.p = n → pl (num f).toNat = plOf E f
theorem Plc.step {n : Int} {E : List M} {pl : Nat → Int} (h : Plc n E pl) {g : M} (hv : Valid g) (hp : g.p = n) (hg : g ∉ E) : Plc n (E ++ [g]) fun j => if j = (num g).toNat then (E.length : Int) + 1 else pl j := by
  intro f hf hfp
  rw [plOf_app hg]
  by_cases e : f = g
  · subst e; simp
  · have hne : (num f).toNat ≠ (num g).toNat := by
      intro e'
      have h1 := num_bd hf; have h2 := num_bd hv
      exact e (num_inj hf hv (by rw [hfp, hp]) (by omega))
    simp only [if_neg hne, if_neg e]
    exact h f hf hfp
def PlcTo (n : Int) (E F : List M) (k : Nat) (pl : Nat → Int) : Prop := ∀ f, Valid f → f.p = n → pl (num f).toNat = if f ∈ E ∧ ix E f < k then (ix E f : Int) + 1 else plOf F f
theorem PlcTo.start {n : Int} {E F : List M} {pl : Nat → Int} (h : Plc n F pl) : PlcTo n E F 0 pl := by
  intro f hf hp
  rw [if_neg (by omega)]
  exact h f hf hp
theorem PlcTo.step {n : Int} {E F : List M} {k : Nat} {pl : Nat → Int} (h : PlcTo n E F k pl) (hn : E.Nodup) (hk : k < E.length) (hok : ∀ f ∈ E, Valid f ∧ f.p = n) : PlcTo n E F (k + 1) fun j => if j = (num (gm E k)).toNat then (k : Int) + 1 else pl j := by
  intro f hf hp
  have hm := gm_mem hk
  by_cases e : f = gm E k
  · subst e
    rw [if_pos ⟨hm, by rw [ix_gm hn hk]; omega⟩, ix_gm hn hk]
    simp
  · have hne : (num f).toNat ≠ (num (gm E k)).toNat := by
      intro e'
      have h1 := num_bd hf; have h2 := num_bd (hok _ hm).1
      exact e (num_inj hf (hok _ hm).1 (by rw [hp, (hok _ hm).2]) (by omega))
    simp only [if_neg hne]
    rw [h f hf hp]
    by_cases hE : f ∈ E
    · have : ix E f ≠ k := fun e' => e (by rw [← e']; exact (gm_ix hE).symm)
      by_cases hl : ix E f < k
      · rw [if_pos ⟨hE, hl⟩, if_pos ⟨hE, by omega⟩]
      · rw [if_neg (fun h => hl h.2), if_neg (fun h => by have := h.2; omega)]
    · rw [if_neg (fun h => hE h.1), if_neg (fun h => hE h.1)]
theorem PlcTo.fin {n : Int} {E F : List M} {k : Nat} {pl : Nat → Int} (h : PlcTo n E F k pl) (hk : E.length ≤ k) (hs : ∀ f, f ∈ E ↔ f ∈ F) : Plc n E pl := by
  intro f hf hp
  rw [h f hf hp]
  by_cases hE : f ∈ E
  · rw [if_pos ⟨hE, by have := ix_lt hE; omega⟩, plOf_in hE]
  · rw [if_neg (fun h => hE h.1), plOf_out hE, plOf_out fun h => hE ((hs f).2 h)]
/-! ### the elements -/
section
variable {gens : List M} {n : Int}
end
set_option maxRecDepth 100000
def Rel (E : List M) (l r : Bool) (f x : M) : Prop :=
  if l = true then (if r = true then JJ E f x else LL E f x) else (if r = true then RR E f x else f = x)
instance (E : List M) (l r : Bool) (f x : M) : Decidable (Rel E l r f x) := by unfold Rel; infer_instance
section
variable {gens E Q : List M} {n : Int} {l r : Bool} {f x g : M}
theorem Rel.refl (hm : Mnd n E) (hf : f ∈ E) : Rel E l r f f := by
  unfold Rel
  split
  · split
    · exact JJ.refl hm hf
    · exact LL.refl hm hf
  · split
    · exact RR.refl hm hf
    · rfl
theorem Rel.left (hm : Mnd n E) (_ : f ∈ E) (hg : g ∈ E) (hl : l = true) (h : Rel E l r f x) : Rel E l r f (mul g x) := by
  unfold Rel at h ⊢
  rw [if_pos hl] at h ⊢
  split at h
  · rename_i hr
    obtain ⟨a, ha, b, hb, rfl⟩ := h
    rw [if_pos hr]
    exact ⟨_, hm.mulE _ hg _ ha, b, hb, hm.assoc hg ha⟩
  · rename_i hr
    obtain ⟨a, ha, rfl⟩ := h
    rw [if_neg hr]
    exact ⟨_, hm.mulE _ hg _ ha, hm.assoc hg ha⟩
theorem Rel.right (hm : Mnd n E) (hf : f ∈ E) (hg : g ∈ E) (hr : r = true) (h : Rel E l r f x) : Rel E l r f (mul x g) := by
  unfold Rel at h ⊢
  split at h
  · rename_i hl
    obtain ⟨a, ha, b, hb, rfl⟩ := h
    rw [if_pos hl, if_pos hr]
    exact ⟨a, ha, _, hm.mulE _ hb _ hg, by rw [hm.assoc ha (hm.mulE _ hf _ hb), hm.assoc hf hb]⟩
  · rename_i hl
    obtain ⟨a, ha, rfl⟩ := h
    rw [if_neg hl, if_pos hr]
    exact ⟨_, hm.mulE _ ha _ hg, (hm.assoc hf ha).symm⟩
theorem Rel.mem (hm : Mnd n E) (hf : f ∈ E) (h : Rel E l r f x) : x ∈ E := by
  unfold Rel at h
  split at h
  · split at h
    · exact h.mem hm hf
    · exact h.mem hm hf
  · split at h
    · exact h.mem hm hf
    · exact h ▸ hf
end
/-! ### numbers of classes -/
section
variable {E : List M} {n : Int}
end
set_option maxRecDepth 100000
def mxTo (g : Nat → Nat) : Nat → Nat
  | 0 => 0
  | k + 1 => max (mxTo g k) (g k)
section
variable (u : Nat → Nat → Bool) (N : Nat)
end
section
variable {u : Nat → Nat → Bool} {N : Nat} {mu : Nat → Nat}
/-! ### rounds that raise values up to the depth -/
def own (cls : Nat → Nat) (u : Nat → Nat → Bool) (N : Nat) (D : Nat → Nat) (i : Nat) : Nat := 1 + mxTo (fun k => if u i k then D (cls k) else 0) N
end
/-! ### elements under others -/
section
variable {E : List M} {n : Int}
end
set_option maxRecDepth 100000
/-! ### sets as words -/
def wdTo (p : Nat → Bool) (b : Nat) : Nat → Nat
  | 0 => 0
  | k + 1 => wdTo p b k ||| (if p (b + k) then 2 ^ k else 0)
def wd (p : Nat → Bool) (q : Nat) : Nat := wdTo p (64 * q) 64
/-! ### the sets of ideals -/
section
variable {E : List M} {n : Int}
/-! ### the grid -/
end
/-! ### words by length -/
set_option maxRecDepth 100000
end Go.Proofs.YtahamedecibmnaaGreat

namespace Go.Proofs.YtahamedecibmnaaGreat
open Go.RowKit
set_option maxRecDepth 100000
theorem readOk_len {s : ByteArray} (h : inR s.size 1 5 = false) : mapOfOk (digs s s.size) = false := by unfold mapOfOk; rw [digs_length, h]; rfl
theorem readNo {s : ByteArray} (h : mapOfOk (digs s s.size) = false) : readR s = M0 ∧ readC s = 6 := by simp [readR, readC, mapOfR, h]
theorem readYes {s : ByteArray} (h : mapOfOk (digs s s.size) = true) : readR s = made (digs s s.size) ∧ readC s = 0 := by simp [readR, readC, mapOfR, h]
theorem wrap_dig (s : ByteArray) (k : Nat) : IntKind.i64.wrap (byt s k) = byt s k ∧ IntKind.i64.wrap (byt s k - 48) = byt s k - 48 := by
  have := byt_lo s k; have := byt_hi s k
  exact ⟨IntWalk.i64_in _ ⟨by omega, by omega⟩, IntWalk.i64_in _ ⟨by omega, by omega⟩⟩
theorem part_made (s : ByteArray) : part (s.size : Int) (fun j => byt s j - 48) (fun _ => 0) s.size = made (digs s s.size) := by
  have e : (digs s s.size).length = s.size := digs_length _ _
  unfold made
  rw [e]
  refine mk'_congr fun j _ => ?_
  by_cases h : j < s.size
  · rw [if_pos h, gi_digs s h]
  · rw [if_neg h, gi_out (by rw [digs_length]; omega)]
theorem ImplParseMap_any (s : ByteArray) (w : World) (hb : s.size < 4611686018427387904) :
    Calls Tryz.prog 12 #[.string s] w fun e w' => e = .returned (.tuple #[.agg (mc (readR s)), I (readC s)]) ∧ Below w.heap.size w w' := by
  by_cases h5 : s.size ≤ 5
  · go_enter Tryz.func12, Tryz.ntmps12
    go_wp2
    go_loopw [5, 15] (fun _ i wr => ∃ k : Nat, k ≤ s.size ∧ i = .int .i64 k ∧ Blk wr w.heap.size 26 (mc M0) ∧ Blk wr (w.heap.size+1) 26 (mc (part (s.size : Int) (fun j => byt s j - 48) (fun _ => 0) k)) ∧ Below w.heap.size w wr)
      (fun _ i _ => s.size - (intOf i).toNat)
    case atStart =>
      refine ⟨0, by omega, rfl, ?_, ?_, by (repeat (first | with_reducible assumption | with_reducible exact Below.refl _ _ | with_reducible refine Below.setCell ?_ (by first | omega | (simp <;> omega)) _ | with_reducible refine Below.alloc ?_ (by first | omega | (simp <;> omega)) _ | with_reducible refine Below.drew ?_ | with_reducible refine Below.drewN ?_ _))⟩
      · exact (Blk.new w _ _).alloc _
      · rw [part_zero]; exact Blk.new' _ _ _ (by simp)
    case round =>
      obtain ⟨k, hk, rfl, hB1, hB2, hbel⟩ := hrel
      by_cases hlt : k < s.size
      · have hk5 : k < 5 := by omega
        have c3 := hB2.at_ hk5
        have z1 : wr.frozen? ⟨w.heap.size+1, 1 + k, none⟩ = false := hB2.frozen _
        have r1 := byt_run s hlt
        have w1 := (wrap_dig s k).1
        have w2 := (wrap_dig s k).2
        go_wp2
        go_roundw
        case rel => exact ⟨k + 1, by omega, by go_num, hB1.far (by simp) _, (hB2.set_ _ _).cast (part_step _ _ _ hk5 rfl), by (repeat (first | with_reducible assumption | with_reducible exact Below.refl _ _ | with_reducible refine Below.setCell ?_ (by first | omega | (simp <;> omega)) _ | with_reducible refine Below.alloc ?_ (by first | omega | (simp <;> omega)) _ | with_reducible refine Below.drew ?_ | with_reducible refine Below.drewN ?_ _))⟩
        case measure => simp [intOf]; omega
      · obtain rfl : k = s.size := by omega
        rw [part_made] at hB2
        obtain ⟨d0, d1, d2, d3, d4, d5⟩ := hB2.six
        have hlen := digs_length s s.size
        by_cases h1 : 1 ≤ s.size
        · have Hm : Hid (isMap (made (digs s s.size)) = okList (digs s s.size)) := isMap_made (by omega) (by omega)
          cases hv : okList (digs s s.size)
          · have Hr : Hid (readR s = M0 ∧ readC s = 6) := readNo (by unfold mapOfOk; rw [hv]; simp)
            have him : isMap (made (digs s s.size)) = false := Hm.out.trans hv
            go_wp2_with fail
            refine (isMap_any _ _).mono ?_
            rintro e w3 ⟨rfl, hb3⟩
            replace hB1 := hB1.below hb3 hB1.lt
            replace hbel := hbel.trans (hb3.mono hbel.size)
            clear hb3 d0 d1 d2 d3 d4 d5
            obtain ⟨e0, e1, e2, e3, e4, e5⟩ := hB1.six
            obtain ⟨z0, z1, z2, z3, z4, z5⟩ := hB1.fr6
            go_wp2
            refine bodyPost_ret (v := .tuple #[.agg (mc M0), I 6]) ?_ rfl ⟨by rw [Hr.out.1, Hr.out.2], by (repeat (first | with_reducible assumption | with_reducible exact Below.refl _ _ | with_reducible refine Below.setCell ?_ (by first | omega | (simp <;> omega)) _ | with_reducible refine Below.alloc ?_ (by first | omega | (simp <;> omega)) _ | with_reducible refine Below.drew ?_ | with_reducible refine Below.drewN ?_ _))⟩
            simp [results, Tryz.results12, go_sem, *]
            try exact ⟨rfl, rfl, rfl, rfl, rfl, rfl⟩
          · have Hr : Hid (readR s = made (digs s s.size) ∧ readC s = 0) := readYes (by unfold mapOfOk; rw [hv, hlen, inR_true.2 ⟨by omega, by omega⟩]; rfl)
            have him : isMap (made (digs s s.size)) = true := Hm.out.trans hv
            go_wp2_with fail
            refine (isMap_any _ _).mono ?_
            rintro e w3 ⟨rfl, hb3⟩
            replace hB1 := hB1.below hb3 hB1.lt
            replace hB2 := hB2.below hb3 hB2.lt
            replace hbel := hbel.trans (hb3.mono hbel.size)
            clear hb3 d0 d1 d2 d3 d4 d5
            obtain ⟨e0, e1, e2, e3, e4, e5⟩ := hB1.six
            obtain ⟨z0, z1, z2, z3, z4, z5⟩ := hB1.fr6
            obtain ⟨d0, d1, d2, d3, d4, d5⟩ := hB2.six
            go_wp2
            refine bodyPost_ret (v := .tuple #[.agg (mc (made (digs s s.size))), I 0]) ?_ rfl ⟨by rw [Hr.out.1, Hr.out.2], by (repeat (first | with_reducible assumption | with_reducible exact Below.refl _ _ | with_reducible refine Below.setCell ?_ (by first | omega | (simp <;> omega)) _ | with_reducible refine Below.alloc ?_ (by first | omega | (simp <;> omega)) _ | with_reducible refine Below.drew ?_ | with_reducible refine Below.drewN ?_ _))⟩
            simp [results, Tryz.results12, go_sem, *]
        · have hr : inR s.size 1 5 = false := inR_false.2 (by omega)
          have Hr : Hid (readR s = M0 ∧ readC s = 6) := readNo (readOk_len hr)
          have him : isMap (made (digs s s.size)) = false := isMap_p (by rw [made_p, hlen]; exact hr)
          clear hr
          go_wp2_with fail
          refine (isMap_any _ _).mono ?_
          rintro e w3 ⟨rfl, hb3⟩
          replace hB1 := hB1.below hb3 hB1.lt
          replace hbel := hbel.trans (hb3.mono hbel.size)
          clear hb3 d0 d1 d2 d3 d4 d5
          obtain ⟨e0, e1, e2, e3, e4, e5⟩ := hB1.six
          obtain ⟨z0, z1, z2, z3, z4, z5⟩ := hB1.fr6
          go_wp2
          refine bodyPost_ret (v := .tuple #[.agg (mc M0), I 6]) ?_ rfl ⟨by rw [Hr.out.1, Hr.out.2], by (repeat (first | with_reducible assumption | with_reducible exact Below.refl _ _ | with_reducible refine Below.setCell ?_ (by first | omega | (simp <;> omega)) _ | with_reducible refine Below.alloc ?_ (by first | omega | (simp <;> omega)) _ | with_reducible refine Below.drew ?_ | with_reducible refine Below.drewN ?_ _))⟩
          simp [results, Tryz.results12, go_sem, *]
          try exact ⟨rfl, rfl, rfl, rfl, rfl, rfl⟩
  · have Hr : Hid (readR s = M0 ∧ readC s = 6) := readNo (readOk_len (inR_false.2 (by omega)))
    have hB : Blk (w.alloc (.cells (mc M0) 26)) w.heap.size 26 (mc M0) := Blk.new _ _ _
    obtain ⟨e0, e1, e2, e3, e4, e5⟩ := hB.six
    obtain ⟨z0, z1, z2, z3, z4, z5⟩ := hB.fr6
    clear hB
    go_enter Tryz.func12, Tryz.ntmps12
    go_wp2
    refine bodyPost_ret (v := .tuple #[.agg (mc M0), I 6]) ?_ rfl ⟨by rw [Hr.out.1, Hr.out.2], by (repeat (first | with_reducible assumption | with_reducible exact Below.refl _ _ | with_reducible refine Below.setCell ?_ (by first | omega | (simp <;> omega)) _ | with_reducible refine Below.alloc ?_ (by first | omega | (simp <;> omega)) _ | with_reducible refine Below.drew ?_ | with_reducible refine Below.drewN ?_ _))⟩
    simp [results, Tryz.results12, go_sem, *]
    try exact ⟨rfl, rfl, rfl, rfl, rfl, rfl⟩
theorem l01Read_any (s : ByteArray) (w : World) (hb : s.size < 4611686018427387904) :
    Calls Tryz.prog 62 #[.string s] w fun e w' => e = .returned (.tuple #[.agg (mc (readR s)), .bool (mapOfOk (digs s s.size))]) ∧ Below w.heap.size w w' := by
  cases hr : inR s.size 1 5
  · have Hr : Hid (readR s = M0 ∧ mapOfOk (digs s s.size) = false) := ⟨(readNo (readOk_len hr)).1, readOk_len hr⟩
    have hr' := inR_false.1 hr
    clear hr
    have hB : ∀ o, Blk ((w.alloc (.cells (mc M0) 26)).alloc o) w.heap.size 26 (mc M0) := fun o => (Blk.new _ _ _).alloc _
    have hsx := fun o => (hB o).six
    have hfr := fun o => (hB o).fr6
    go_enter Tryz.func62, Tryz.ntmps62
    by_cases h0 : s.size = 0
    · go_wp2
      refine bodyPost_ret (v := .tuple #[.agg (mc M0), .bool false]) ?_ rfl ⟨by rw [Hr.out.1, Hr.out.2], by (repeat (first | with_reducible assumption | with_reducible exact Below.refl _ _ | with_reducible refine Below.setCell ?_ (by first | omega | (simp <;> omega)) _ | with_reducible refine Below.alloc ?_ (by first | omega | (simp <;> omega)) _ | with_reducible refine Below.drew ?_ | with_reducible refine Below.drewN ?_ _))⟩
      simp [results, Tryz.results62, go_sem, *]
      try exact ⟨rfl, rfl, rfl, rfl, rfl, rfl⟩
    · have h6 : 6 ≤ s.size := by omega
      go_wp2
      refine bodyPost_ret (v := .tuple #[.agg (mc M0), .bool false]) ?_ rfl ⟨by rw [Hr.out.1, Hr.out.2], by (repeat (first | with_reducible assumption | with_reducible exact Below.refl _ _ | with_reducible refine Below.setCell ?_ (by first | omega | (simp <;> omega)) _ | with_reducible refine Below.alloc ?_ (by first | omega | (simp <;> omega)) _ | with_reducible refine Below.drew ?_ | with_reducible refine Below.drewN ?_ _))⟩
      simp [results, Tryz.results62, go_sem, *]
      try exact ⟨rfl, rfl, rfl, rfl, rfl, rfl⟩
  · have hr1 := (inR_true.1 hr).1
    have hr2 := (inR_true.1 hr).2
    have Hin := Lib.hid hr
    clear hr
    go_enter Tryz.func62, Tryz.ntmps62
    go_wp2
    go_loopw [4, 5] (fun v i wr => ∃ k : Nat, k ≤ s.size ∧ i = .int .i64 k ∧ OwI 2 wr (w.heap.size + 1) v (digs s k) ∧ Blk wr w.heap.size 26 (mc M0) ∧ Below w.heap.size w wr) (fun _ i _ => 5 - (intOf i).toNat)
    case atStart => exact ⟨0, by omega, rfl, OwI.made' (by simp) (Nat.le_refl _), (Blk.new _ _ _).alloc _, by (repeat (first | with_reducible assumption | with_reducible exact Below.refl _ _ | with_reducible refine Below.setCell ?_ (by first | omega | (simp <;> omega)) _ | with_reducible refine Below.alloc ?_ (by first | omega | (simp <;> omega)) _ | with_reducible refine Below.drew ?_ | with_reducible refine Below.drewN ?_ _))⟩
    case round =>
      obtain ⟨k, hk, rfl, hown, hB, hbel⟩ := hrel
      obtain ⟨A, c, hv, hrd⟩ := hown.form
      rw [digs_length] at hv
      subst hv
      have Hrd := Lib.hid hrd
      clear hrd
      by_cases hlt : k < s.size
      · have r1 := byt_run s hlt
        have w1 := (wrap_dig s k).1
        have w2 := (wrap_dig s k).2
        go_wp2_with (at_builtin; refine wpList_pushI rfl (.tmp 23) (.tmp 29) rfl (w.heap.size + 1) _ (digs s k) rfl (hown.alloc _) wr.heap.size 1 (byt s k - 48) rfl ((Blk.new _ _ _).cell 0) (by rw [digs_length]; omega) (by have := hbel.size; simp; omega) (wr.heap.size + 1) (by simp) ?_; intro g' cap w1 hown' hgr hg' hlt')
        go_roundw
        case rel => exact ⟨k + 1, by omega, by go_num, by rw [digs_succ]; simpa [digs_length] using hown', (hB.alloc _).grown hgr (hown.ne (by omega)), hown.alloc _ |>.bel (hbel.alloc hbel.size _) hgr (by omega) (by have := hbel.size; simp; omega)⟩
        case measure => simp [intOf]; omega
      · obtain rfl : k = s.size := by omega
        have Hlen : Hid ((digs s s.size).length = s.size) := digs_length _ _
        go_wp2
        go_loopw [6] (fun i wq => ∃ k : Nat, k ≤ s.size ∧ i = .int .i64 k ∧ Hid (∀ j, j < k → inR (gi (digs s s.size) j) 0 ((s.size : Int) - 1) = true) ∧ Hid (RdI wq wr.heap.size A (digs s s.size)) ∧ Blk wq w.heap.size 26 (mc M0) ∧ Below wr.heap.size wr wq) (fun i _ => s.size - (intOf i).toNat)
        case atStart => exact ⟨0, by omega, rfl, fun j hj => absurd hj (by omega), Hrd, hB, Below.refl _ _⟩
        case round =>
          obtain ⟨k, hk, rfl, hg, Hrd, hB, hb2⟩ := hrel
          have hb0 := hbel.size
          replace hbel := hbel.trans (hb2.mono hbel.size)
          obtain ⟨e0, e1, e2, e3, e4, e5⟩ := hB.six
          obtain ⟨z0, z1, z2, z3, z4, z5⟩ := hB.fr6
          by_cases hlt : k < s.size
          · obtain ⟨b, off, hA, hbb, c1⟩ := RdI.at_ Hrd.out (k := k) (by rw [Hlen.out]; exact hlt)
            have HA := Lib.hid hA
            clear hA
            cases HA.out
            cases hin : inR (gi (digs s s.size) k) 0 ((s.size : Int) - 1)
            · have Hr : Hid (readR s = M0 ∧ mapOfOk (digs s s.size) = false) := by
                have h1 : okList (digs s s.size) = false := by
                  cases h : okList (digs s s.size) with
                  | false => rfl
                  | true => have := (okList_iff _).1 h k (by rw [Hlen.out]; exact hlt); rw [Hlen.out, hin] at this; cases this
                have : mapOfOk (digs s s.size) = false := by unfold mapOfOk; rw [h1]; simp
                exact ⟨(readNo this).1, this⟩
              go_wp2_with (go_at_call 58; refine (l01In_any _ _ _ _).mono ?_; rintro e w' ⟨rfl, rfl⟩)
              refine bodyPost_ret (v := .tuple #[.agg (mc M0), .bool false]) ?_ rfl ⟨by rw [Hr.out.1, Hr.out.2], by (repeat (first | with_reducible assumption | with_reducible exact Below.refl _ _ | with_reducible refine Below.setCell ?_ (by first | omega | (simp <;> omega)) _ | with_reducible refine Below.alloc ?_ (by first | omega | (simp <;> omega)) _ | with_reducible refine Below.drew ?_ | with_reducible refine Below.drewN ?_ _))⟩
              simp [results, Tryz.results62, go_sem, *]
              try exact ⟨rfl, rfl, rfl, rfl, rfl, rfl⟩
            · have Hs : Hid (∀ j, j < k + 1 → inR (gi (digs s s.size) j) 0 ((s.size : Int) - 1) = true) := by
                intro j hj; by_cases e : j = k
                · subst e; exact hin
                · exact hg.out j (by omega)
              go_wp2_with (go_at_call 58; refine (l01In_any _ _ _ _).mono ?_; rintro e w' ⟨rfl, rfl⟩)
              go_roundw
              case rel => exact ⟨k + 1, by omega, by go_num, Hs.out, Hrd, hB, hb2⟩
              case measure => simp [intOf]; omega
          · have Hr : Hid (readR s = made (digs s s.size) ∧ mapOfOk (digs s s.size) = true) := by
              have h1 : okList (digs s s.size) = true := (okList_iff _).2 fun j hj => by
                have := hg.out j (by rw [Hlen.out] at hj; omega)
                rwa [Hlen.out]
              have : mapOfOk (digs s s.size) = true := by unfold mapOfOk; rw [h1, Hlen.out, Hin.out]; rfl
              exact ⟨(readYes this).1, this⟩
            go_wp2_with fail
            refine (l01Made_any A s.size c (digs s s.size) _ (Hrd.out.more hb2.size) Hlen.out (by omega)).mono ?_
            rintro e w1 ⟨rfl, hb1⟩
            replace hB := hB.below hb1 hB.lt
            replace hbel := hbel.trans (hb1.mono hbel.size)
            clear hb1 e0 e1 e2 e3 e4 e5 z0 z1 z2 z3 z4 z5
            obtain ⟨e0, e1, e2, e3, e4, e5⟩ := hB.six
            obtain ⟨z0, z1, z2, z3, z4, z5⟩ := hB.fr6
            go_wp2
            refine bodyPost_ret (v := .tuple #[.agg (mc (made (digs s s.size))), .bool true]) ?_ rfl ⟨by rw [Hr.out.1, Hr.out.2], by (repeat (first | with_reducible assumption | with_reducible exact Below.refl _ _ | with_reducible refine Below.setCell ?_ (by first | omega | (simp <;> omega)) _ | with_reducible refine Below.alloc ?_ (by first | omega | (simp <;> omega)) _ | with_reducible refine Below.drew ?_ | with_reducible refine Below.drewN ?_ _))⟩
            simp [results, Tryz.results62, go_sem, *]
theorem SpecParseMap_any (s : ByteArray) (w : World) (hb : s.size < 4611686018427387904) :
    Calls Tryz.prog 26 #[.string s] w fun e w' => e = .returned (.tuple #[.agg (mc (readR s)), I (readC s)]) ∧ Below w.heap.size w w' := by
  go_enter Tryz.func26, Tryz.ntmps26
  go_wp2_with fail
  refine (l01Read_any _ _ hb).mono ?_
  rintro e w1 ⟨rfl, hb1⟩
  have hB : Blk w1 w.heap.size 26 (mc M0) := Blk.after hb1 (by simp)
  have hbel : Below w.heap.size w w1 := Below.trans (by (repeat (first | with_reducible assumption | with_reducible exact Below.refl _ _ | with_reducible refine Below.setCell ?_ (by first | omega | (simp <;> omega)) _ | with_reducible refine Below.alloc ?_ (by first | omega | (simp <;> omega)) _ | with_reducible refine Below.drew ?_ | with_reducible refine Below.drewN ?_ _))) (hb1.mono (by simp))
  clear hb1
  have hlt := hB.lt
  have hne : ¬ w.heap.size = w1.heap.size := by omega
  have hne' : ¬ w1.heap.size = w.heap.size := by omega
  obtain ⟨e0, e1, e2, e3, e4, e5⟩ := hB.six
  obtain ⟨z0, z1, z2, z3, z4, z5⟩ := hB.fr6
  clear hB
  cases hv : mapOfOk (digs s s.size)
  · have Hr : Hid (readR s = M0 ∧ readC s = 6) := readNo hv
    clear hv
    go_wp2
    refine bodyPost_ret (v := .tuple #[.agg (mc M0), I 6]) ?_ rfl ⟨by rw [Hr.out.1, Hr.out.2], by (repeat (first | with_reducible assumption | with_reducible exact Below.refl _ _ | with_reducible refine Below.setCell ?_ (by first | omega | (simp <;> omega)) _ | with_reducible refine Below.alloc ?_ (by first | omega | (simp <;> omega)) _ | with_reducible refine Below.drew ?_ | with_reducible refine Below.drewN ?_ _))⟩
    simp [results, Tryz.results26, go_sem, *]
    try exact ⟨rfl, rfl, rfl, rfl, rfl, rfl⟩
  · have Hr : Hid (readC s = 0) := (readYes hv).2
    clear hv
    go_wp2
    refine bodyPost_ret (v := .tuple #[.agg (mc (readR s)), I 0]) ?_ rfl ⟨by rw [Hr.out], by (repeat (first | with_reducible assumption | with_reducible exact Below.refl _ _ | with_reducible refine Below.setCell ?_ (by first | omega | (simp <;> omega)) _ | with_reducible refine Below.alloc ?_ (by first | omega | (simp <;> omega)) _ | with_reducible refine Below.drew ?_ | with_reducible refine Below.drewN ?_ _))⟩
    simp [results, Tryz.results26, go_sem, *]
end Go.Proofs.YtahamedecibmnaaGreat

namespace Go.Proofs.YtahamedecibmnaaGreat
open Go.RowKit
set_option maxRecDepth 100000
def cB (zs : List UInt8) : List Value := zs.map fun b => .int .u8 (b.toNat : Int)
def RdB (w : World) (B : Nat) (A : Option Addr) (zs : List UInt8) : Prop := Rd 1 w B A zs.length (cB zs)
def OwB (e : TypeId) (w : World) (B : Nat) (v : Value) (zs : List UInt8) : Prop := w.ownsRow B e 1 v zs.length (cB zs)
section
variable {e : TypeId} {w w' : World} {B B' : Nat} {v : Value} {zs : List UInt8}
theorem OwB.form (h : OwB e w B v zs) : ∃ A c, v = .slice A zs.length c ∧ RdB w w.heap.size A zs := by
  rcases h.2 with ⟨rfl, h0⟩ | ⟨g, cap, cur, rfl, _⟩
  · have hz : zs = [] := List.eq_nil_of_length_eq_zero h0
    subst hz
    exact ⟨none, 0, rfl, Rd.nil_⟩
  · exact ⟨_, _, rfl, Rd.of_own h⟩
theorem OwB.lt (h : OwB e w B v zs) : ∀ g, v.ownBlock = some g → B ≤ g ∧ g < w.heap.size := World.ownsRow.lt h
theorem OwB.mono (h : OwB e w B v zs) (hB : B' ≤ B) : OwB e w B' v zs := by
  refine ⟨h.1, ?_⟩
  rcases h.2 with hn | ⟨g, cap, cur, hv, hg, rest⟩
  · exact .inl hn
  · exact .inr ⟨g, cap, cur, hv, by omega, rest⟩
theorem OwB.keep (h : OwB e w B v zs) (hk : ∀ g, v.ownBlock = some g → w'.heap[g]? = w.heap[g]?) : OwB e w' B v zs := by
  refine ⟨h.1, ?_⟩
  rcases h.2 with hn | ⟨g, cap, cur, rfl, hg, hh, rest⟩
  · exact .inl hn
  · exact .inr ⟨g, cap, cur, rfl, hg, by rw [hk g rfl]; exact hh, rest⟩
theorem OwB.below {m : Nat} (h : OwB e w B v zs) (hb : Below m w w') (hm : w.heap.size ≤ m) : OwB e w' B v zs :=
  h.keep fun g hg => hb.block g (by have := h.lt g hg; omega)
theorem OwB.alloc (h : OwB e w B v zs) (o : Obj) : OwB e (w.alloc o) B v zs := h.keep fun g hg => Below.heap_alloc w o g (h.lt g hg).2
theorem OwB.drew (h : OwB e w B v zs) : OwB e w.drew B v zs := h
theorem OwB.drewN (h : OwB e w B v zs) (n : Nat) : OwB e (w.drewN n) B v zs := h
theorem OwB.far (h : OwB e w B v zs) {p : Addr} (hp : v.ownBlock ≠ some p.block) (u : Value) : OwB e (w.setCell p u) B v zs :=
  h.keep fun g hg => Below.heap_setCell w p u g (fun e => hp (by rw [hg, e]))
theorem OwB.ne (h : OwB e w B v zs) {g : Nat} (hg : g < B) : some g ≠ v.ownBlock := fun he => by have := h.lt g he.symm; omega
theorem OwB.bel (h : OwB e w B v zs) {n : Nat} {w0 : World} (hb : Below n w0 w) (hg : w.grownBy w' v.ownBlock) (hB : n ≤ B) (hs : n ≤ w.heap.size) : Below n w0 w' :=
  hb.grown hg hs fun k hk => by have := h.lt k hk; omega
theorem OwB.of_heap (h : OwB e w B v zs) (hh : w'.heap = w.heap) : OwB e w' B v zs := h.keep fun g _ => by rw [hh]
theorem OwB.nil_ : OwB e w B (.slice none 0 0) [] := World.ownsRow_nil w B e 1
theorem OwB.made' {n : Nat} (hn : n = w.heap.size) (hb : B ≤ n) : OwB e (w.alloc (.cells #[] e)) B (.slice (some ⟨n, 0, none⟩) 0 0) [] := by
  subst hn; exact World.ownsRow_made w #[] 0 hb (by simp [maxLen]) (by simp)
theorem OwB.made (hb : B ≤ w.heap.size) : OwB e (w.alloc (.cells #[] e)) B (.slice (some ⟨w.heap.size, 0, none⟩) 0 0) [] :=
  World.ownsRow_made w #[] 0 hb (by simp [maxLen]) (by simp)
end
theorem infoB : (Tryz.prog.info? 5).map (fun i => (i.zero, i.size, i.bytes)) = some (some (.int .u8 0), 1, 1) := by kernel_rfl
set_option maxRecDepth 100000 in
theorem wpList_pushB {w : World} {ops : Array Oper} {rest : List Oper} {o : Oper} {a : Act} {Q : Exit → Act → World → Prop} (hgd : o.guard = none) (s x : Operand)
    (ho : o.op = .call { callee := .builtin .append, args := #[s, x], argTypes := #[22, 22] }) (B : Nat) (v : Value) (zs : List UInt8) (hs : a.eval s = v) (hown : OwB 5 w B v zs) (n : Nat) (hlen : zs.length = n)
    (g : Nat) (c : Nat) (z : UInt8) (hx : a.eval x = .slice (some ⟨g, 0, none⟩) 1 c) (hg : w.cell? ⟨g, 0, none⟩ = some (.int .u8 z.toNat))
    (hn : n < 1073741824) (hB : B ≤ w.heap.size) (H : Nat) (hH : w.heap.size = H)
    (h : ∀ g' cap w', OwB 5 w' B (.slice (some ⟨g', 0, none⟩) (n + 1) cap) (zs ++ [z]) → w.grownBy w' v.ownBlock → (v.ownBlock = some g' ∨ g' = H) → g' < w'.heap.size →
      wpList Tryz.prog ops Q rest (a.put o.dst (.slice (some ⟨g', 0, none⟩) (n + 1) cap)) w') : wpList Tryz.prog ops Q (o :: rest) a w := by
  subst hlen
  obtain ⟨i, hi, hz0, hz1, hz2⟩ := info_parts infoB
  refine wpList_append_lies w hgd s x 22 ho B 5 i (.int .u8 0) 1 1 Tryz.underlying22 hi hz0 hz1 hz2 rfl (by decide) v zs.length (cB zs) hs hown ⟨g, 0, none⟩ 1 c [.int .u8 z.toNat] hx rfl ?_ ?_ (by decide) (by unfold maxLen; omega) (by omega) hB H hH ?_
  · intro j u hj
    match j, hj with
    | 0, hj => simp at hj; subst hj; simpa [Addr.add] using hg
  · intro u hu; simp at hu; subst hu; rfl
  · intro g' cap w' h1 h2 h3 h4
    exact h g' cap w' (by unfold OwB; simpa [cB] using h1) h2 h3 h4
theorem textOf {w : World} {B : Nat} {A : Option Addr} {zs : List UInt8} {n c : Nat} (hr : RdB w B A zs) (hn : zs.length = n) (hpos : 0 < n) :
    (convert 22 9 (.slice A n c)).run Tryz.prog w = .ok (.string ⟨zs.toArray⟩) w := by
  subst hn
  obtain ⟨b, off, rfl, _, hc⟩ := hr.2 hpos
  refine run_convert_bytes_back w 22 9 5 ⟨b, off, none⟩ c zs Tryz.underlying22 Tryz.underlying5 Tryz.underlying9 fun j hj => ?_
  have := hc j (.int .u8 (zs[j].toNat : Int)) (by simp [cB, hj])
  unfold Addr.add
  split
  · rename_i h0; subst h0; simpa using this
  · exact this
end Go.Proofs.YtahamedecibmnaaGreat

namespace Go.Proofs.YtahamedecibmnaaGreat
open Go.RowKit
set_option maxRecDepth 100000
def dg (n : Int) : UInt8 := UInt8.ofNat (48 + n.toNat)
theorem dg_nat {n : Int} (h0 : 0 ≤ n) (h9 : n < 10) : ((dg n).toNat : Int) = 48 + n := by
  unfold dg
  rw [UInt8.toNat_ofNat']
  omega
theorem l01Dec_any (n : Int) (w : World) (h0 : 0 ≤ n) (h9 : n < 10) :
    Calls Tryz.prog 76 #[I n] w fun e w' => e = .returned (.string ⟨#[dg n]⟩) ∧ Below w.heap.size w w' := by
  have w1 : IntKind.i64.wrap (48 + n) = 48 + n := IntWalk.i64_in _ ⟨by omega, by omega⟩
  have w2 : IntKind.u8.wrap (48 + n) = 48 + n := by simp [IntKind.wrap, IntKind.signed, IntKind.bits]; omega
  have h1 : ¬ n < 0 := by omega
  have hc : ∀ c, (convert 22 9 (.slice (some ⟨w.heap.size, 0, none⟩) 1 c)).run Tryz.prog (w.alloc (.cells #[.int .u8 (48 + n)] 5)) = .ok (.string ⟨#[dg n]⟩) (w.alloc (.cells #[.int .u8 (48 + n)] 5)) := by
    intro c
    refine textOf (zs := [dg n]) (B := w.heap.size + 1) ⟨by simp [cB], fun _ => ⟨w.heap.size, 0, rfl, by omega, fun j u hj => ?_⟩⟩ rfl (by decide)
    match j, hj with
    | 0, hj =>
      simp [cB] at hj
      subst hj
      rw [dg_nat h0 h9]
      exact World.cell?_alloc_mark w #[.int .u8 (48 + n)] 5 (0, 0) 0
  go_enter Tryz.func76, Tryz.ntmps76
  go_wp2
  go_ret
  exact ⟨rfl, by (repeat (first | with_reducible assumption | with_reducible exact Below.refl _ _ | with_reducible refine Below.setCell ?_ (by first | omega | (simp <;> omega)) _ | with_reducible refine Below.alloc ?_ (by first | omega | (simp <;> omega)) _ | with_reducible refine Below.drew ?_ | with_reducible refine Below.drewN ?_ _))⟩
def txt (f : M) (k : Nat) : List UInt8 := (List.range k).map fun j => dg (f.at j)
theorem txt_length (f : M) (k : Nat) : (txt f k).length = k := by simp [txt]
theorem txt_succ (f : M) (k : Nat) : txt f (k + 1) = txt f k ++ [dg (f.at k)] := by simp [txt, List.range_succ]
def ba (l : List UInt8) : ByteArray := ⟨l.toArray⟩
theorem add_txt (f : M) {k : Nat} (hk : k ≤ 10) (w : World) : (Op.stringOp .add (ba (txt f k)) ⟨#[dg (f.at k)]⟩).run Tryz.prog w = .ok (.string (ba (txt f (k + 1)))) w := by
  have := run_string_add_lists (P := Tryz.prog) w (txt f k) [dg (f.at k)] (by rw [txt_length]; omega) (by simp)
  rw [txt_succ]
  exact this
theorem l01Text_any (f : M) (w : World) (hf : Valid f) :
    Calls Tryz.prog 60 #[.agg (mc f)] w fun e w' => e = .returned (.string (ba (txt f f.p.toNat))) ∧ Below w.heap.size w w' := by
  have hp1 := hf.p1
  have hp5 := hf.p5
  go_enter Tryz.func60, Tryz.ntmps60
  go_wp2
  go_loopw [3, 4] (fun s i wr => ∃ k : Nat, (k : Int) ≤ f.p ∧ s = .string (ba (txt f k)) ∧ i = .int .i64 k ∧ Blk wr w.heap.size 26 (mc f) ∧ Below w.heap.size w wr) (fun _ i _ => 5 - (intOf i).toNat)
  case atStart => exact ⟨0, by omega, rfl, rfl, Blk.new _ _ _, by (repeat (first | with_reducible assumption | with_reducible exact Below.refl _ _ | with_reducible refine Below.setCell ?_ (by first | omega | (simp <;> omega)) _ | with_reducible refine Below.alloc ?_ (by first | omega | (simp <;> omega)) _ | with_reducible refine Below.drew ?_ | with_reducible refine Below.drewN ?_ _))⟩
  case round =>
    obtain ⟨k, hk, rfl, rfl, hB, hbel⟩ := hrel
    have c0 : wr.cell? ⟨w.heap.size, 0, none⟩ = some (I f.p) := hB.cell 0
    by_cases hlt : (k : Int) < f.p
    · have c1 := hB.at_ (k := k) (by omega)
      have b1 := hf.lo k (by omega) hlt
      have b2 := hf.hi k (by omega) hlt
      have hadd := add_txt f (k := k) (by omega)
      go_wp2_with fail
      refine (l01Dec_any (f.at k) _ b1 (by omega)).mono ?_
      rintro e w1 ⟨rfl, hb⟩
      replace hB := hB.below hb hB.lt
      replace hbel := hbel.trans (hb.mono hbel.size)
      clear hb c0 c1
      go_wp2
      go_roundw
      case rel => exact ⟨k + 1, by omega, rfl, by go_num, hB, hbel⟩
      case measure => simp [intOf]; omega
    · obtain rfl : k = f.p.toNat := by omega
      go_wp2
      go_ret
      exact ⟨rfl, hbel⟩
theorem text_any (f : M) (w : World) (hf : Valid f) :
    Calls Tryz.prog 41 #[.agg (mc f)] w fun e w' => e = .returned (.string (ba (txt f f.p.toNat))) ∧ Below w.heap.size w w' := by
  have hp1 := hf.p1
  have hp5 := hf.p5
  go_enter Tryz.func41, Tryz.ntmps41
  go_wp2_with fail
  refine (images_any f _ hf).mono ?_
  rintro e w1 ⟨v, rfl, ho, hb⟩
  obtain ⟨A, c, hv, hr⟩ := ho.form
  rw [imgs_length] at hv
  subst hv
  have hbel : Below w.heap.size w w1 := Below.trans (by (repeat (first | with_reducible assumption | with_reducible exact Below.refl _ _ | with_reducible refine Below.setCell ?_ (by first | omega | (simp <;> omega)) _ | with_reducible refine Below.alloc ?_ (by first | omega | (simp <;> omega)) _ | with_reducible refine Below.drew ?_ | with_reducible refine Below.drewN ?_ _))) (hb.mono (by simp))
  obtain ⟨n, hn⟩ : ∃ n, n = f.p.toNat := ⟨_, rfl⟩
  rw [← hn] at hr ⊢
  have hn1 : (n : Int) = f.p := by omega
  have Hn := Lib.hid hn
  have hn5 : n ≤ 5 := by omega
  have Hr := Lib.hid hr
  have Hn1 := Lib.hid hn1
  clear hb ho hn hr hn1
  go_wp2_with fail
  go_loopw [3, 9] (fun s i wr => ∃ k : Nat, k ≤ n ∧ OwB 5 wr w1.heap.size s (txt f k) ∧ i = .int .i64 k ∧ Hid (RdI wr w1.heap.size A (imgs f n)) ∧ Below w1.heap.size w1 wr) (fun _ i _ => n - (intOf i).toNat)
  case atStart => exact ⟨0, by omega, OwB.nil_, rfl, Hr, Below.refl _ _⟩
  case round =>
    obtain ⟨k, hk, ho, rfl, Hr2, hb2⟩ := hrel
    obtain ⟨S, cs, hv, hrb⟩ := ho.form
    rw [txt_length] at hv
    subst hv
    have Hrb := Lib.hid hrb
    clear hrb
    by_cases hlt : k < n
    · obtain ⟨b, off, rfl, hbb, c1⟩ := RdI.at_ Hr2.out (k := k) (by rw [imgs_length]; exact hlt)
      have e1 : gi (imgs f n) k = f.at k := by simp [gi, imgs, List.getD, hlt]
      rw [e1] at c1
      clear e1
      have b1 := hf.lo k (by omega) (by have := Hn1.out; omega)
      have b2 := hf.hi k (by omega) (by have := Hn1.out; omega)
      have w2 : IntKind.u8.wrap (f.at k) = f.at k := by simp [IntKind.wrap, IntKind.signed, IntKind.bits]; omega
      have w3 : IntKind.u8.wrap (48 + f.at k) = 48 + f.at k := by simp [IntKind.wrap, IntKind.signed, IntKind.bits]; omega
      have Hd := Lib.hid (dg_nat b1 (by omega))
      have hsz := hb2.size
      go_wp2_with (at_builtin; refine wpList_pushB rfl (.tmp 13) (.tmp 17) rfl w1.heap.size (.slice S k cs) (txt f k) rfl (ho.alloc _) k (txt_length f k) wr.heap.size 1 (dg (f.at k)) rfl (by rw [Hd.out]; exact (Blk.new _ _ _).cell 0) (by omega) (by simp; omega) (wr.heap.size + 1) (by simp) ?_; intro g' cap w4 ho' hgr hg' hlt')
      go_roundw
      case rel => exact ⟨k + 1, by omega, by rw [txt_succ]; exact ho', by go_num, (Rd.alloc Hr2.out hsz _).grown hgr (by simp; omega) (fun g hg => (ho.lt g hg).1), (ho.alloc _).bel (hb2.alloc hsz _) hgr (Nat.le_refl _) (by simp; omega)⟩
      case measure => simp [intOf]; omega
    · obtain rfl : k = n := by omega
      have hpos : 0 < k := by have := Hn1.out; omega
      have hc := textOf (c := cs) Hrb.out (txt_length f k) hpos
      have Hn2 := Lib.hid (hbel.trans (hb2.mono hbel.size))
      go_wp2
      go_ret
      exact ⟨by rw [← Hn.out]; rfl, Hn2.out⟩
def txtR (f : M) : ByteArray := if isMap f then ba (txt f f.p.toNat) else ⟨#[]⟩
theorem txtR_bad {f : M} (h : isMap f = false) : txtR f = ⟨#[]⟩ := by simp [txtR, h]
theorem txtR_good {f : M} (h : isMap f = true) : txtR f = ba (txt f f.p.toNat) := by simp [txtR, h]
theorem ImplMapText_any (f : M) (w : World) :
    Calls Tryz.prog 11 #[.agg (mc f)] w fun e w' => e = .returned (.tuple #[.string (txtR f), I (cInv (isMap f))]) ∧ Below w.heap.size w w' := by
  cases h : isMap f
  · have Hr := Lib.hid (txtR_bad h)
    go_enter Tryz.func11, Tryz.ntmps11
    go_wp2_with fail
    refine (isMap_any _ _).mono ?_
    rintro e w1 ⟨rfl, hb⟩
    rw [h]
    have hbel : Below w.heap.size w w1 := Below.trans (by (repeat (first | with_reducible assumption | with_reducible exact Below.refl _ _ | with_reducible refine Below.setCell ?_ (by first | omega | (simp <;> omega)) _ | with_reducible refine Below.alloc ?_ (by first | omega | (simp <;> omega)) _ | with_reducible refine Below.drew ?_ | with_reducible refine Below.drewN ?_ _))) (hb.mono (by simp <;> omega))
    clear hb
    go_wp2
    go_ret2
    exact ⟨by rw [Hr.out] <;> rfl, hbel⟩
  · have Hr := Lib.hid (txtR_good h)
    have hv := (isMap_iff f).1 h
    go_enter Tryz.func11, Tryz.ntmps11
    go_wp2_with fail
    refine (isMap_any _ _).mono ?_
    rintro e w1 ⟨rfl, hb⟩
    rw [h]
    have hs : Six w1 w.heap.size f := Six.below (Blk.six (Blk.new w _ _)) hb (by simp)
    have hbel : Below w.heap.size w w1 := Below.trans (by (repeat (first | with_reducible assumption | with_reducible exact Below.refl _ _ | with_reducible refine Below.setCell ?_ (by first | omega | (simp <;> omega)) _ | with_reducible refine Below.alloc ?_ (by first | omega | (simp <;> omega)) _ | with_reducible refine Below.drew ?_ | with_reducible refine Below.drewN ?_ _))) (hb.mono (by simp <;> omega))
    clear hb
    go_wp2_with fail
    refine (text_any f _ hv).mono ?_
    rintro e w2 ⟨rfl, hb⟩
    replace hbel := hbel.trans (hb.mono hbel.size)
    clear hb
    go_wp2
    go_ret2
    exact ⟨by rw [Hr.out] <;> rfl, hbel⟩
theorem SpecMapText_any (f : M) (w : World) :
    Calls Tryz.prog 31 #[.agg (mc f)] w fun e w' => e = .returned (.tuple #[.string (txtR f), I (cInv (isMap f))]) ∧ Below w.heap.size w w' := by
  cases h : isMap f
  · have Hr := Lib.hid (txtR_bad h)
    go_enter Tryz.func31, Tryz.ntmps31
    go_wp2_with fail
    refine (l01Is_any _ _).mono ?_
    rintro e w1 ⟨rfl, hb⟩
    rw [h]
    have hbel : Below w.heap.size w w1 := Below.trans (by (repeat (first | with_reducible assumption | with_reducible exact Below.refl _ _ | with_reducible refine Below.setCell ?_ (by first | omega | (simp <;> omega)) _ | with_reducible refine Below.alloc ?_ (by first | omega | (simp <;> omega)) _ | with_reducible refine Below.drew ?_ | with_reducible refine Below.drewN ?_ _))) (hb.mono (by simp <;> omega))
    clear hb
    go_wp2
    go_ret2
    exact ⟨by rw [Hr.out] <;> rfl, hbel⟩
  · have Hr := Lib.hid (txtR_good h)
    have hv := (isMap_iff f).1 h
    go_enter Tryz.func31, Tryz.ntmps31
    go_wp2_with fail
    refine (l01Is_any _ _).mono ?_
    rintro e w1 ⟨rfl, hb⟩
    rw [h]
    have hs : Six w1 w.heap.size f := Six.below (Blk.six (Blk.new w _ _)) hb (by simp)
    have hbel : Below w.heap.size w w1 := Below.trans (by (repeat (first | with_reducible assumption | with_reducible exact Below.refl _ _ | with_reducible refine Below.setCell ?_ (by first | omega | (simp <;> omega)) _ | with_reducible refine Below.alloc ?_ (by first | omega | (simp <;> omega)) _ | with_reducible refine Below.drew ?_ | with_reducible refine Below.drewN ?_ _))) (hb.mono (by simp <;> omega))
    clear hb
    go_wp2_with fail
    refine (l01Text_any f _ hv).mono ?_
    rintro e w2 ⟨rfl, hb⟩
    replace hbel := hbel.trans (hb.mono hbel.size)
    clear hb
    go_wp2
    go_ret2
    exact ⟨by rw [Hr.out] <;> rfl, hbel⟩
end Go.Proofs.YtahamedecibmnaaGreat

namespace Go.Proofs.YtahamedecibmnaaGreat
open Go.RowKit
set_option maxRecDepth 100000
theorem at_bdP {f : M} (hf : Valid f) {i : Nat} (hi : i < f.p.toNat) : 0 ≤ f.at i ∧ f.at i < f.p ∧ f.p ≤ 5 ∧ i < 5 := by
  have h1 := hf.p1
  have h5 := hf.p5
  exact ⟨hf.lo i (by omega) (by omega), hf.hi i (by omega) (by omega), h5, by omega⟩
theorem sel_nodupP (q : Int → Bool) (n : Nat) : (sel q n).Nodup := (sel_strict q n).imp fun h e => by omega
theorem rk_rP {f g : M} (hf : Valid f) (hp : f.p = g.p) : rk (mul f g) ≤ rk g := by
  unfold rk
  refine nodup_sub_len (sel_nodupP _ _) fun z hz => ?_
  obtain ⟨⟨k, hk, rfl⟩, hq⟩ := sel_mem.1 hz
  rw [mul_p] at hq
  obtain ⟨i, hi, e⟩ := imQ_ups.1 hq
  refine sel_mem.2 ⟨⟨k, hk, rfl⟩, imQ_ups.2 ⟨(f.at i).toNat, ?_, ?_⟩⟩
  · have := at_bdP hf hi
    rw [← hp]; omega
  · rw [at_mul f g (by have := at_bdP hf hi; omega), if_pos (by omega)] at e
    exact e
theorem rk_lP {f g : M} (hf : Valid f) : rk (mul f g) ≤ rk f := by
  unfold rk
  have hlen : (sel (imQ f (ups f.p.toNat)) 5).length = ((sel (imQ f (ups f.p.toNat)) 5).map fun y => g.at y.toNat).length := by rw [List.length_map]
  rw [hlen]
  refine nodup_sub_len (sel_nodupP _ _) fun z hz => ?_
  obtain ⟨⟨k, hk, rfl⟩, hq⟩ := sel_mem.1 hz
  rw [mul_p] at hq
  obtain ⟨i, hi, e⟩ := imQ_ups.1 hq
  rw [at_mul f g (by have := at_bdP hf hi; omega), if_pos (by omega)] at e
  rw [List.mem_map]
  have hb := at_bdP hf hi
  refine ⟨f.at i, sel_mem.2 ⟨⟨(f.at i).toNat, by omega, by omega⟩, ?_⟩, e⟩
  rw [show f.at i = ((f.at i).toNat : Int) by omega]
  exact imQ_ups.2 ⟨i, hi, by omega⟩
theorem made_imgs {f : M} (hf : Valid f) : mapOfOk (imgs f f.p.toNat) = true ∧ made (imgs f f.p.toNat) = f := by
  have h1 := hf.p1
  have h5 := hf.p5
  have hl : (imgs f f.p.toNat).length = f.p.toNat := imgs_length _ _
  have hg : ∀ j, j < f.p.toNat → gi (imgs f f.p.toNat) j = f.at j := fun j hj => by simp [gi, imgs, List.getD, hj]
  constructor
  · unfold mapOfOk
    rw [Bool.and_eq_true]
    refine ⟨inR_true.2 (by rw [hl]; omega), (okList_iff _).2 fun k hk => ?_⟩
    rw [hl] at hk ⊢
    rw [hg k hk]
    have := at_bdP hf hk
    exact inR_true.2 (by omega)
  · refine M.ext5 (by rw [made_p, hl]; omega) fun k hk => ?_
    rw [made_at hk]
    by_cases h : k < f.p.toNat
    · exact hg k h
    · rw [gi_out (by rw [hl]; omega), hf.out k hk (by omega)]
theorem read_txt {f : M} (hf : Valid f) : readR (ba (txt f f.p.toNat)) = f ∧ readC (ba (txt f f.p.toNat)) = 0 ∧ (ba (txt f f.p.toNat)).size ≤ 5 := by
  have h1 := hf.p1
  have h5 := hf.p5
  have hs : (ba (txt f f.p.toNat)).size = f.p.toNat := by show (txt f f.p.toNat).toArray.size = _; rw [List.size_toArray, txt_length]
  have hd : digs (ba (txt f f.p.toNat)) f.p.toNat = imgs f f.p.toNat := by
    unfold digs imgs
    refine List.map_congr_left fun j hj => ?_
    have hj := List.mem_range.1 hj
    have hb := at_bdP hf hj
    unfold byt
    rw [dif_pos (by rw [hs]; exact hj)]
    have e : (ba (txt f f.p.toNat))[j]'(by rw [hs]; exact hj) = dg (f.at j) := by
      show ((txt f f.p.toNat).toArray)[j]'(by rw [List.size_toArray, txt_length]; exact hj) = _
      simp [txt]
    rw [e, dg_nat hb.1 (by omega)]
    omega
  obtain ⟨a, b⟩ := made_imgs hf
  refine ⟨?_, ?_, by rw [hs]; omega⟩
  · unfold readR mapOfR
    rw [hs, hd, if_pos a, b]
  · unfold readC
    rw [hs, hd, if_pos a]
theorem prod_law {f g : M} (h : codeLike f g = 0) :
    codeLike (mulR f g) f = 0 ∧ codeLike g f = 0 ∧ codeLike f (mulR g f) = 0 ∧ mulR f (mulR g f) = mulR (mulR f g) f ∧
    isMap f = true ∧ isMap g = true ∧ isMap (mulR f g) = true ∧ rkR (mulR f g) ≤ rkR f ∧ rkR (mulR f g) ≤ rkR g ∧
    readR (txtR (mulR f g)) = mulR f g ∧ readC (txtR (mulR f g)) = 0 ∧ (txtR (mulR f g)).size ≤ 5 ∧
    mapOfR (imgsR (mulR f g)) = mulR f g ∧ mapOfC (imgsR (mulR f g)) = 0 ∧ (imgsR (mulR f g)).length ≤ 5 := by
  have hl := (codeLike_like f g).2 h
  obtain ⟨vf, vg, hp⟩ := like_iff.1 hl
  have e1 : mulR f g = mul f g := by unfold mulR; rw [if_pos hl]
  have vh : Valid (mul f g) := Valid.mul vf vg hp
  have l2 : like (mul f g) f = true := like_iff.2 ⟨vh, vf, rfl⟩
  have l3 : like g f = true := like_iff.2 ⟨vg, vf, hp.symm⟩
  have e3 : mulR g f = mul g f := by unfold mulR; rw [if_pos l3]
  have vi : Valid (mul g f) := Valid.mul vg vf hp.symm
  have l4 : like f (mul g f) = true := like_iff.2 ⟨vf, vi, hp⟩
  have mf := (isMap_iff f).2 vf
  have mg := (isMap_iff g).2 vg
  have mh := (isMap_iff (mul f g)).2 vh
  rw [e1, e3]
  obtain ⟨a, b⟩ := made_imgs vh
  obtain ⟨t1, t2, t3⟩ := read_txt vh
  have ei : imgsR (mul f g) = imgs (mul f g) (mul f g).p.toNat := by unfold imgsR; rw [if_pos mh]
  rw [txtR_good mh, ei, rkR_good mf, rkR_good mg, rkR_good mh]
  refine ⟨(codeLike_like _ _).1 l2, (codeLike_like _ _).1 l3, (codeLike_like _ _).1 l4, ?_, mf, mg, mh, ?_, ?_, t1, t2, t3, ?_, ?_, ?_⟩
  · unfold mulR
    rw [if_pos l4, if_pos l2, mul_assoc vf vg hp]
  · have := rk_lP (g := g) vf; omega
  · have := rk_rP (g := g) vf hp; omega
  · unfold mapOfR; rw [if_pos a, b]
  · unfold mapOfC; rw [if_pos a]
  · rw [imgs_length]; have := vh.p5; omega
theorem setP_bd {p : Int} {zs : List Int} (h : isSetB p zs = true) {z : Int} (hz : z ∈ zs) : 0 ≤ z ∧ z < p := by
  obtain ⟨j, hj, e⟩ := List.getElem_of_mem hz
  unfold isSetB at h
  rw [List.all_eq_true] at h
  have h1 := h j (List.mem_range.2 hj)
  unfold okAt at h1
  rw [Bool.and_eq_true, gi_eq hj, e] at h1
  have := inR_true.1 h1.1
  omega
theorem img_law {f : M} {zs : List Int} (h : codeSet f zs = 0) : codeSet f (imgSR f zs) = 0 ∧ ∀ z ∈ zs, z ∈ preR f (imgSR f zs) := by
  obtain ⟨hm, hs⟩ := codeSet_zero.1 h
  have hf := (isMap_iff f).1 hm
  have h5 := hf.p5
  have him : ∀ v, v ∈ imgSR f zs ↔ (∃ k : Nat, k < 5 ∧ v = k) ∧ v ∈ led f zs := fun v => by
    rw [imgSR_good h, sel_mem]; unfold imQ; rw [decide_eq_true_eq]
  have hled : ∀ v, v ∈ led f zs → 0 ≤ v ∧ v < f.p := fun v hv => by
    unfold led at hv
    obtain ⟨z, hz, rfl⟩ := List.mem_map.1 hv
    have h1 := setP_bd hs hz
    have := at_bdP hf (i := z.toNat) (by omega)
    omega
  have hset : isSetB f.p (imgSR f zs) = true := by
    refine isSetB_true fun j hj => ?_
    have hmem : gi (imgSR f zs) j ∈ imgSR f zs := by rw [gi_eq hj]; exact List.getElem_mem _
    have hb := hled _ ((him _).1 hmem).2
    unfold okAt
    rw [Bool.and_eq_true, Bool.or_eq_true, decide_eq_true_eq, decide_eq_true_eq]
    refine ⟨inR_true.2 (by omega), ?_⟩
    by_cases h0 : j = 0
    · exact .inl h0
    · right
      have hp : (imgSR f zs).Pairwise (· < ·) := by rw [imgSR_good h]; exact sel_strict _ _
      have := List.pairwise_iff_getElem.1 hp (j - 1) j (by omega) hj (by omega)
      rw [gi_eq (by omega), gi_eq hj]
      exact this
  have hc : codeSet f (imgSR f zs) = 0 := codeSet_zero.2 ⟨hm, hset⟩
  refine ⟨hc, fun z hz => ?_⟩
  have h1 := setP_bd hs hz
  have hb := at_bdP hf (i := z.toNat) (by omega)
  rw [preR_good hc]
  refine sel_mem.2 ⟨⟨z.toNat, by omega, by omega⟩, ?_⟩
  unfold preIs
  rw [decide_eq_true_eq]
  exact (him _).2 ⟨⟨(f.at z.toNat).toNat, by omega, by omega⟩, by unfold led; exact List.mem_map_of_mem hz⟩
end Go.Proofs.YtahamedecibmnaaGreat

namespace Go.Proofs.YtahamedecibmnaaGreat
open Go.RowKit
set_option maxRecDepth 100000
set_option linter.unusedSimpArgs false
set_option linter.unusedVariables false
def RetK (s : Nat) (A : Option Addr) (n c : Nat) (zs : List Int) (ls : List Int) (w : World) (e : Ending) (w' : World) : Prop := ∃ r : Int, e = .returned (I r) ∧ r ∈ ls ∧ Src w' s A n c zs ∧ w.grownBy w' (some s)
theorem pick_any {s : Nat} {A : Option Addr} {n c : Nat} {zs : List Int} (g k ck : Nat) (ls : List Int) (w : World) (hS : Src w s A n c zs) (ho : OwI 2 w (s + 1) (.slice (some ⟨g, 0, none⟩) k ck) ls) (hl : ls.length = k) (h1 : 1 ≤ k) (hk : k ≤ 300) :
    Calls Tryz.prog 57 #[.pointer (some ⟨s, 0, none⟩), .slice (some ⟨g, 0, none⟩) k ck] w (RetK s A n c zs ls w) := by
  have HS := Lib.hid hS
  have Ho := Lib.hid ho
  have Hl := Lib.hid hl
  clear hS ho hl
  go_enter Tryz.func57, Tryz.ntmps57
  go_wp2_with fail
  refine (next_any k w HS.out).mono ?_
  rintro e w1 ⟨r, rfl, hr, _, hS1, hg1⟩
  obtain ⟨hr0, hrk⟩ := hr (by omega)
  obtain ⟨j, hj⟩ : ∃ j : Nat, (j : Int) = r := ⟨r.toNat, by omega⟩
  have hjk : j < k := by omega
  have hjz : (j : Int) < (k : Int) := by omega
  subst hj
  have ho1 := OwI.keep Ho.out (fun q hq => hg1.block q (Ho.out.lt q hq).2 (by have := (Ho.out.lt q hq).1; intro e; injection e with e; omega))
  obtain ⟨c0, _⟩ := OwI.spotAt ho1 (k := j) (by rw [Hl.out]; exact hjk)
  have HS1 := Lib.hid hS1
  have Hg1 := Lib.hid hg1
  have Hm : Hid (gi ls j ∈ ls) := by
    show gi ls j ∈ ls
    unfold gi
    rw [List.getD_eq_getElem?_getD, List.getElem?_eq_getElem (by rw [Hl.out]; exact hjk)]
    exact List.getElem_mem _
  obtain ⟨x, hx⟩ : ∃ x, x = gi ls j := ⟨_, rfl⟩
  rw [← hx] at c0 Hm
  clear hr hS1 hg1 ho1 hx
  go_wp2_with fail
  go_ret
  exact ⟨x, rfl, Hm.out, HS1.out, Hg1.out⟩
def RetF (A : Option Addr) (n c : Nat) (zs : List Int) (w : World) (e : Ending) (w' : World) : Prop := ∃ s, e = .returned (.pointer (some ⟨s, 0, none⟩)) ∧ w.heap.size ≤ s ∧ Src w' s A n c zs ∧ Below w.heap.size w w'
set_option maxHeartbeats 2000000 in
theorem from_any {A : Option Addr} {n c : Nat} {zs : List Int} (w : World) (hx : RdU w w.heap.size A zs) (hn : zs.length = n) (hb : n < 4611686018427387904) :
    Calls Tryz.prog 53 #[.slice A n c] w (RetF A n c zs w) := by
  obtain ⟨h0, e0, hh0⟩ := u64_some (13591 + (n : Int))
  have Hx := Lib.hid hx
  have Hn := Lib.hid hn
  have Hnb := Lib.hid hb
  have e9 : IntKind.u64.wrap (n : Int) = (n : Int) := IntWalk.u64_in _ ⟨by omega, by omega⟩
  have Hh0 := Lib.hid hh0
  clear hx hn hb hh0
  go_enter Tryz.func53, Tryz.ntmps53
  go_wp2_with fail
  obtain ⟨s, hs⟩ : ∃ s, s = w.heap.size := ⟨_, rfl⟩
  obtain ⟨wb, hwb⟩ : ∃ wb, wb = w.alloc (.cells #[.slice A n c, I 0, .int .u64 h0] TSrc) := ⟨_, rfl⟩
  have HS0 : Hid (Src wb s A n c zs) := by
    show Src _ _ _ _ _ _
    rw [hwb, hs]
    exact ⟨⟨0, h0, Nat.zero_le _, Hh0.out, Blk.new w _ _⟩, Hx.out.below ((Below.refl _ _).alloc (Nat.le_refl _) _), Hn.out, Hnb.out⟩
  have Hb0 : Hid (Below w.heap.size w wb) := by show Below _ _ _; rw [hwb]; exact (Below.refl _ _).alloc (Nat.le_refl _) _
  have Hs := Lib.hid hs
  rw [← hs, ← hwb]
  clear hwb hs e0 e9
  go_loopw [4] (fun t wr => ∃ i : Nat, t = .int .i64 i ∧ i ≤ n ∧ Src wr s A n c zs ∧ Below w.heap.size w wr) (fun t _ => n - (intOf t).toNat)
  case atStart => exact ⟨0, rfl, Nat.zero_le _, HS0.out, Hb0.out⟩
  case round =>
    clear HS0 Hb0
    obtain ⟨i, rfl, hi, hS, hb⟩ := hrel
    have HS := Lib.hid hS
    have Hb := Lib.hid hb
    clear hS hb
    by_cases hin : i < n
    · have hiz : (i : Int) < (n : Int) := by omega
      by_cases h4 : i < 4096
      · have h4z : (i : Int) < 4096 := by omega
        obtain ⟨a, h, ha, hh, hbl⟩ := HS.out.blk
        obtain ⟨m1, f1, hm1⟩ := u64_some ((h : Int) * 1099511628211)
        obtain ⟨b, off, rfl, hbs, hcz⟩ := HS.out.code.at_ (k := i) (by rw [Hn.out]; exact hin)
        have hzv := HS.out.code.val (k := i) (by rw [Hn.out]; exact hin)
        obtain ⟨z, hz⟩ : ∃ z, z = gi zs i := ⟨_, rfl⟩
        rw [← hz] at hcz hzv
        obtain ⟨m2, f2, hm2⟩ := u64_some ((m1 : Int) + z)
        obtain ⟨m3, f3, hm3⟩ := u64_some ((m2 : Int) + 181)
        have f4 : IntKind.u64.wrap z = z := IntWalk.u64_in _ ⟨by omega, by omega⟩
        have ls := hbl.lt
        have lb : b < wr.heap.size := by omega
        have Hbl := Lib.hid hbl
        have Hcz := Lib.hid hcz
        have Hm3 := Lib.hid hm3
        have Ha := Lib.hid ha
        clear hbl hcz hz hh hm1 hm2 hm3 ha hzv
        go_wp2_with fail
        refine wp_region_last [] rfl (by kernel_rfl) (by kernel_rfl) (by kernel_rfl) (by kernel_rfl) (fun w' => Below wr.heap.size wr w')
          (fun w' => ∃ w3, Below wr.heap.size wr w3 ∧ w' = w3.setCell ⟨s, 2, none⟩ (.int .u64 m3)) _
          [.pointer (some ⟨s, 0, none⟩), .pointer (some ⟨s, 0, none⟩), .pointer (some ⟨s, 0, none⟩), .pointer (some ⟨s, 2, none⟩), .int .u64 h, .int .u64 m1, .slice (some ⟨b, off, none⟩) n c, I i, .pointer (some ⟨b, off + i, none⟩), .int .u8 z, .int .u64 z, .int .u64 m2, .int .u64 m3, .pointer (some ⟨s, 0, none⟩), .pointer (some ⟨s, 2, none⟩), undef]
          (by simp only [putAll, List.setIfInBounds_toArray, List.set_cons_succ, List.set_cons_zero]; rfl) (Below.refl _ _).drew 15 _ rfl rfl ?hop ?hst ?hQ
        case hop =>
          refine FixBL.toL (fun w' w'' hS hb => hS.trans (hb.mono hS.size)) _ _ ?_
          refine ⟨.inr ?_, .inr ?_, .inr ?_, .inr ?_, .inr ?_, .inr ?_, .inr ?_, .inr ?_, .inr ?_, .inr ?_, .inr ?_, .inr ?_, .inr ?_, .inr ?_, .inr ?_, .inl rfl, trivial⟩
          · (with_reducible refine FixB.of ?_ ?_; rfl; intro w' hS; have s9 := Hbl.out.below hS ls; have s2 := s9.cell 2; simp only [List.getElem?_toArray, List.getElem?_cons_zero, List.getElem?_cons_succ] at s2; have s3 := (hS.cell (p := ⟨b, off + i, none⟩) lb).trans Hcz.out; clear s9 hS; unfold Oper.wp; go_simp; first | done | exact Below.refl _ _)
          · (with_reducible refine FixB.of ?_ ?_; rfl; intro w' hS; have s9 := Hbl.out.below hS ls; have s2 := s9.cell 2; simp only [List.getElem?_toArray, List.getElem?_cons_zero, List.getElem?_cons_succ] at s2; have s3 := (hS.cell (p := ⟨b, off + i, none⟩) lb).trans Hcz.out; clear s9 hS; unfold Oper.wp; go_simp; first | done | exact Below.refl _ _)
          · (with_reducible refine FixB.of ?_ ?_; rfl; intro w' hS; have s9 := Hbl.out.below hS ls; have s2 := s9.cell 2; simp only [List.getElem?_toArray, List.getElem?_cons_zero, List.getElem?_cons_succ] at s2; have s3 := (hS.cell (p := ⟨b, off + i, none⟩) lb).trans Hcz.out; clear s9 hS; unfold Oper.wp; go_simp; first | done | exact Below.refl _ _)
          · (with_reducible refine FixB.of ?_ ?_; rfl; intro w' hS; have s9 := Hbl.out.below hS ls; have s2 := s9.cell 2; simp only [List.getElem?_toArray, List.getElem?_cons_zero, List.getElem?_cons_succ] at s2; have s3 := (hS.cell (p := ⟨b, off + i, none⟩) lb).trans Hcz.out; clear s9 hS; unfold Oper.wp; go_simp; first | done | exact Below.refl _ _)
          · (with_reducible refine FixB.of ?_ ?_; rfl; intro w' hS; have s9 := Hbl.out.below hS ls; have s2 := s9.cell 2; simp only [List.getElem?_toArray, List.getElem?_cons_zero, List.getElem?_cons_succ] at s2; have s3 := (hS.cell (p := ⟨b, off + i, none⟩) lb).trans Hcz.out; clear s9 hS; unfold Oper.wp; go_simp; first | done | exact Below.refl _ _)
          · (with_reducible refine FixB.of ?_ ?_; rfl; intro w' hS; have s9 := Hbl.out.below hS ls; have s2 := s9.cell 2; simp only [List.getElem?_toArray, List.getElem?_cons_zero, List.getElem?_cons_succ] at s2; have s3 := (hS.cell (p := ⟨b, off + i, none⟩) lb).trans Hcz.out; clear s9 hS; unfold Oper.wp; go_simp; first | done | exact Below.refl _ _)
          · (with_reducible refine FixB.of ?_ ?_; rfl; intro w' hS; have s9 := Hbl.out.below hS ls; have s2 := s9.cell 2; simp only [List.getElem?_toArray, List.getElem?_cons_zero, List.getElem?_cons_succ] at s2; have s3 := (hS.cell (p := ⟨b, off + i, none⟩) lb).trans Hcz.out; clear s9 hS; unfold Oper.wp; go_simp; first | done | exact Below.refl _ _)
          · (with_reducible refine FixB.of ?_ ?_; rfl; intro w' hS; have s9 := Hbl.out.below hS ls; have s2 := s9.cell 2; simp only [List.getElem?_toArray, List.getElem?_cons_zero, List.getElem?_cons_succ] at s2; have s3 := (hS.cell (p := ⟨b, off + i, none⟩) lb).trans Hcz.out; clear s9 hS; unfold Oper.wp; go_simp; first | done | exact Below.refl _ _)
          · (with_reducible refine FixB.of ?_ ?_; rfl; intro w' hS; have s9 := Hbl.out.below hS ls; have s2 := s9.cell 2; simp only [List.getElem?_toArray, List.getElem?_cons_zero, List.getElem?_cons_succ] at s2; have s3 := (hS.cell (p := ⟨b, off + i, none⟩) lb).trans Hcz.out; clear s9 hS; unfold Oper.wp; go_simp; first | done | exact Below.refl _ _)
          · (with_reducible refine FixB.of ?_ ?_; rfl; intro w' hS; have s9 := Hbl.out.below hS ls; have s2 := s9.cell 2; simp only [List.getElem?_toArray, List.getElem?_cons_zero, List.getElem?_cons_succ] at s2; have s3 := (hS.cell (p := ⟨b, off + i, none⟩) lb).trans Hcz.out; clear s9 hS; unfold Oper.wp; go_simp; first | done | exact Below.refl _ _)
          · (with_reducible refine FixB.of ?_ ?_; rfl; intro w' hS; have s9 := Hbl.out.below hS ls; have s2 := s9.cell 2; simp only [List.getElem?_toArray, List.getElem?_cons_zero, List.getElem?_cons_succ] at s2; have s3 := (hS.cell (p := ⟨b, off + i, none⟩) lb).trans Hcz.out; clear s9 hS; unfold Oper.wp; go_simp; first | done | exact Below.refl _ _)
          · (with_reducible refine FixB.of ?_ ?_; rfl; intro w' hS; have s9 := Hbl.out.below hS ls; have s2 := s9.cell 2; simp only [List.getElem?_toArray, List.getElem?_cons_zero, List.getElem?_cons_succ] at s2; have s3 := (hS.cell (p := ⟨b, off + i, none⟩) lb).trans Hcz.out; clear s9 hS; unfold Oper.wp; go_simp; first | done | exact Below.refl _ _)
          · (with_reducible refine FixB.of ?_ ?_; rfl; intro w' hS; have s9 := Hbl.out.below hS ls; have s2 := s9.cell 2; simp only [List.getElem?_toArray, List.getElem?_cons_zero, List.getElem?_cons_succ] at s2; have s3 := (hS.cell (p := ⟨b, off + i, none⟩) lb).trans Hcz.out; clear s9 hS; unfold Oper.wp; go_simp; first | done | exact Below.refl _ _)
          · (with_reducible refine FixB.of ?_ ?_; rfl; intro w' hS; have s9 := Hbl.out.below hS ls; have s2 := s9.cell 2; simp only [List.getElem?_toArray, List.getElem?_cons_zero, List.getElem?_cons_succ] at s2; have s3 := (hS.cell (p := ⟨b, off + i, none⟩) lb).trans Hcz.out; clear s9 hS; unfold Oper.wp; go_simp; first | done | exact Below.refl _ _)
          · (with_reducible refine FixB.of ?_ ?_; rfl; intro w' hS; have s9 := Hbl.out.below hS ls; have s2 := s9.cell 2; simp only [List.getElem?_toArray, List.getElem?_cons_zero, List.getElem?_cons_succ] at s2; have s3 := (hS.cell (p := ⟨b, off + i, none⟩) lb).trans Hcz.out; clear s9 hS; unfold Oper.wp; go_simp; first | done | exact Below.refl _ _)
        case hst =>
          refine ⟨rfl, fun w' hS => ?_⟩
          have s9 := Hbl.out.below hS ls
          have c2 := s9.cell 2
          have z2 := s9.frozen 2
          simp only [List.getElem?_toArray, List.getElem?_cons_zero, List.getElem?_cons_succ] at c2
          have Hs := Lib.hid hS
          clear hS s9
          unfold Oper.wp
          go_simp
          exact ⟨w', Hs.out, rfl⟩
        case hQ =>
        rintro w' ⟨w6, hb6, rfl⟩
        have b6 := (Hbl.out.below hb6 ls).set_ 2 (.int .u64 m3)
        have HS6 : Hid (Src (w6.setCell ⟨s, 2, none⟩ (.int .u64 m3)) s (some ⟨b, off, none⟩) n c zs) := by
          refine ⟨⟨a, m3, Ha.out, Hm3.out, b6.cast ?_⟩, ?_, Hn.out, Hnb.out⟩
          · simp only [List.setIfInBounds_toArray, List.set_cons_succ, List.set_cons_zero]
          · exact (HS.out.code.below (hb6.mono (Nat.le_of_lt ls))).below ((Below.refl _ _).setCell (p := ⟨s, 2, none⟩) (Nat.le_refl _) _)
        have Hb6 := Lib.hid ((Hb.out.trans (hb6.mono Hb.out.size)).setCell (p := ⟨s, 2, none⟩) (Nat.le_of_eq Hs.out.symm) (.int .u64 m3))
        clear b6 hb6
        go_wp2_with fail
        go_roundw
        case rel => exact ⟨i + 1, by go_num, Nat.succ_le_of_lt hin, HS6.out, Hb6.out⟩
        case measure => simp [intOf]; omega
      · have h4z : ¬ ((i : Int) < 4096) := by omega
        go_wp2_with fail
        go_ret
        exact ⟨s, rfl, Nat.le_of_eq Hs.out.symm, HS.out, Hb.out⟩
    · have hiz : ¬ ((i : Int) < (n : Int)) := by omega
      go_wp2_with fail
      go_ret
      exact ⟨s, rfl, Nat.le_of_eq Hs.out.symm, HS.out, Hb.out⟩
end Go.Proofs.YtahamedecibmnaaGreat

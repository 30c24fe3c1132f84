/- Contracts of the function that makes a map of a list, and of those that read a text; no conditions beyond those that each theorem states. -/
import Derived.Test.YtkbfocoaobiijaaGreatC6
import Derived.Laws.CopyOwn
import Derived.Laws.Strings
namespace Go.Proofs.YtkbfocoaobiijaaGreat
open Go.RowKit
set_option maxRecDepth 100000

theorem slc0 (g : Nat) (w : World) : (Instr.sliceAt 29 (.pointer (some ⟨g, 1, none⟩)) none none none).run Tryz.prog w = .ok (.slice (some ⟨g, 1, none⟩) 5 5) w := by kernel_rfl

theorem splice_made {zs : List Int} (h5 : zs.length ≤ 5) : (splice (mc ⟨zs.length, 0, 0, 0, 0, 0⟩).toList 1 (cI zs)).toArray = mc (made zs) := by
  match zs, h5 with
  | [], _ => rfl
  | [_], _ => rfl
  | [_, _], _ => rfl
  | [_, _, _], _ => rfl
  | [_, _, _, _], _ => rfl
  | [_, _, _, _, _], _ => rfl

theorem wpList_copyBox {w : World} {ops : Array Oper} {rest : List Oper} {o : Oper} {a : Act} {Q : Exit → Act → World → Prop} (hgd : o.guard = none) (d s : Operand)
    (ho : o.op = .call { callee := .builtin .copy, args := #[d, s], argTypes := #[39, 39] }) (g n c : Nat) (A : Option Addr) (zs : List Int) (hd : a.eval d = .slice (some ⟨g, 1, none⟩) 5 5) (hs : a.eval s = .slice A n c)
    (hB : Blk w g 31 (mc ⟨n, 0, 0, 0, 0, 0⟩)) (B : Nat) (hx : RdI w B A zs) (hn : Hid (zs.length = n)) (h5 : n ≤ 5)
    (h : ∀ w', Blk w' g 31 (mc (made zs)) → Below g w w' → wpList Tryz.prog ops Q rest (a.put o.dst (I n)) w') : wpList Tryz.prog ops Q (o :: rest) a w := by
  have hl : (cI zs).length = n := by rw [cI_length]; exact hn.out
  refine wpList_copy_splice hgd d s 39 39 ho 2 Tryz.underlying39 (by kernel_rfl) (some ⟨g, 1, none⟩) A 5 5 n c hd hs g 1 (mc ⟨n, 0, 0, 0, 0, 0⟩).toList 31 hB (cI zs) (by rw [hl]; exact (Nat.min_eq_left h5).symm) ?_ (by rw [hl]; show 1 + n ≤ 6; omega) ?_ g w (Below.refl _ _) (Nat.le_refl _) ?_
  · intro hp
    rw [hl] at hp
    obtain ⟨b, off, e, _, hc⟩ := hx.2 (by rw [hn.out]; exact hp)
    exact ⟨rfl, ⟨b, off, none⟩, e, fun j v hv => by
      have := hc j v hv
      unfold Addr.add
      split
      · rename_i h0; subst h0; simpa using this
      · exact this⟩
  · intro v hv
    obtain ⟨z, _, rfl⟩ := List.mem_map.1 hv
    rfl
  · intro w' hg hb
    rw [hl]
    have e : (mc ⟨(n : Int), 0, 0, 0, 0, 0⟩) = mc ⟨zs.length, 0, 0, 0, 0, 0⟩ := by rw [hn.out]
    have hg' := hg.out
    rw [e, splice_made (by rw [hn.out]; exact h5)] at hg'
    exact h w' hg' hb

theorem ImplMapOf_any (A : Option Addr) (n c : Nat) (zs : List Int) (w : World) (hx : RdI w w.heap.size A zs) (hn : zs.length = n) (hb : n < 1073741824) :
    Calls Tryz.prog 72 #[.slice A n c] w fun e w' => e = .returned (.tuple #[.agg (mc (mapOfR zs)), I (mapOfC zs)]) ∧ Below w.heap.size w w' := by
  have Hn := Lib.hid hn
  have Hx := Lib.hid hx
  clear hn hx
  have hB : Blk ((w.alloc (.cells (mc M0) 31)).alloc (.cells (mc ⟨n, 0, 0, 0, 0, 0⟩) 31)) w.heap.size 31 (mc M0) := (Blk.new _ _ _).alloc _
  obtain ⟨e0, e1, e2, e3, e4, e5⟩ := hB.six
  obtain ⟨z0, z1, z2, z3, z4, z5⟩ := hB.fr6
  clear hB
  cases hr : inR n 1 5
  · have Hr : Hid (mapOfR zs = M0 ∧ mapOfC zs = 2) := by
      have : mapOfOk zs = false := by unfold mapOfOk; rw [Hn.out, hr]; rfl
      exact ⟨by simp [mapOfR, this], by simp [mapOfC, this]⟩
    go_enter Tryz.func72, Tryz.ntmps72
    go_wp2_with (go_at_call 178; refine (within_any _ _ _ _).mono ?_; rintro e w' ⟨rfl, rfl⟩)
    refine bodyPost_ret (v := .tuple #[.agg (mc M0), I 2]) ?_ rfl ⟨by rw [Hr.out.1, Hr.out.2], by (repeat (first | with_reducible assumption | with_reducible exact Below.refl _ _ | with_reducible refine Below.setCell ?_ (by first | omega | (simp <;> omega)) _ | with_reducible refine Below.alloc ?_ (by first | omega | (simp <;> omega)) _ | with_reducible refine Below.drew ?_ | with_reducible refine Below.drewN ?_ _))⟩
    simp [results, Tryz.results72, go_sem, *]
    try exact ⟨rfl, rfl, rfl, rfl, rfl, rfl⟩
  · have hr1 := (inR_true.1 hr).1
    have hr2 := (inR_true.1 hr).2
    have Hin := Lib.hid hr
    have hsl := slc0 (w.heap.size + 1)
    have HX : Hid (∀ w', Below w.heap.size w w' → RdI w' w.heap.size A zs) := fun w' hb => Hx.out.below hb
    go_enter Tryz.func72, Tryz.ntmps72
    go_wp2_with (first | (go_at_call 178; refine (within_any _ _ _ _).mono ?_; rintro e w' ⟨rfl, rfl⟩) | (with_reducible show wpList _ _ _ (_ :: _) _ _; refine wpList_copyBox (o := ⟨some 16, _, _, _, _, _⟩) rfl (.tmp 14) (.tmp 15) rfl (w.heap.size + 1) n c A zs rfl rfl (Blk.new' _ _ _ (by simp)) w.heap.size (HX.out _ (by (repeat (first | with_reducible assumption | with_reducible exact Below.refl _ _ | with_reducible refine Below.setCell ?_ (by first | omega | (simp <;> omega)) _ | with_reducible refine Below.alloc ?_ (by first | omega | (simp <;> omega)) _ | with_reducible refine Below.drew ?_ | with_reducible refine Below.drewN ?_ _)))) Hn (by omega) ?_))
    intro w2 hB hb
    have hbel : Below w.heap.size w w2 := Below.trans (by (repeat (first | with_reducible assumption | with_reducible exact Below.refl _ _ | with_reducible refine Below.setCell ?_ (by first | omega | (simp <;> omega)) _ | with_reducible refine Below.alloc ?_ (by first | omega | (simp <;> omega)) _ | with_reducible refine Below.drew ?_ | with_reducible refine Below.drewN ?_ _))) (hb.mono (by simp <;> omega))
    have hR : Blk w2 w.heap.size 31 (mc M0) := Blk.below ((Blk.new _ _ _).alloc _) hb (by omega)
    clear hb e0 e1 e2 e3 e4 e5 z0 z1 z2 z3 z4 z5
    obtain ⟨e0, e1, e2, e3, e4, e5⟩ := hR.six
    obtain ⟨z0, z1, z2, z3, z4, z5⟩ := hR.fr6
    obtain ⟨d0, d1, d2, d3, d4, d5⟩ := hB.six
    have Hm : Hid (isMap (made zs) = okList zs) := isMap_made (by rw [Hn.out]; omega) (by rw [Hn.out]; omega)
    cases hv : okList zs
    · have Hr : Hid (mapOfR zs = M0 ∧ mapOfC zs = 2) := by
        have : mapOfOk zs = false := by unfold mapOfOk; rw [hv]; simp
        exact ⟨by simp [mapOfR, this], by simp [mapOfC, this]⟩
      have him : isMap (made zs) = false := Hm.out.trans hv
      go_wp2_with fail
      refine (isMap_any _ _).mono ?_
      rintro e w3 ⟨rfl, hb3⟩
      replace hR := hR.below hb3 hR.lt
      replace hbel := hbel.trans (hb3.mono hbel.size)
      clear hb3 e0 e1 e2 e3 e4 e5 z0 z1 z2 z3 z4 z5 d0 d1 d2 d3 d4 d5
      obtain ⟨e0, e1, e2, e3, e4, e5⟩ := hR.six
      obtain ⟨z0, z1, z2, z3, z4, z5⟩ := hR.fr6
      go_wp2
      refine bodyPost_ret (v := .tuple #[.agg (mc M0), I 2]) ?_ rfl ⟨by rw [Hr.out.1, Hr.out.2], by (repeat (first | with_reducible assumption | with_reducible exact Below.refl _ _ | with_reducible refine Below.setCell ?_ (by first | omega | (simp <;> omega)) _ | with_reducible refine Below.alloc ?_ (by first | omega | (simp <;> omega)) _ | with_reducible refine Below.drew ?_ | with_reducible refine Below.drewN ?_ _))⟩
      simp [results, Tryz.results72, go_sem, *]
      try exact ⟨rfl, rfl, rfl, rfl, rfl, rfl⟩
    · have Hr : Hid (mapOfR zs = made zs ∧ mapOfC zs = 0) := by
        have : mapOfOk zs = true := by unfold mapOfOk; rw [hv, Hn.out, Hin.out]; rfl
        exact ⟨by simp [mapOfR, this], by simp [mapOfC, this]⟩
      have him : isMap (made zs) = true := Hm.out.trans hv
      go_wp2_with fail
      refine (isMap_any _ _).mono ?_
      rintro e w3 ⟨rfl, hb3⟩
      replace hR := hR.below hb3 hR.lt
      replace hB := hB.below hb3 hB.lt
      replace hbel := hbel.trans (hb3.mono hbel.size)
      clear hb3 e0 e1 e2 e3 e4 e5 z0 z1 z2 z3 z4 z5 d0 d1 d2 d3 d4 d5
      obtain ⟨e0, e1, e2, e3, e4, e5⟩ := hR.six
      obtain ⟨z0, z1, z2, z3, z4, z5⟩ := hR.fr6
      obtain ⟨d0, d1, d2, d3, d4, d5⟩ := hB.six
      go_wp2
      refine bodyPost_ret (v := .tuple #[.agg (mc (made zs)), I 0]) ?_ rfl ⟨by rw [Hr.out.1, Hr.out.2], by (repeat (first | with_reducible assumption | with_reducible exact Below.refl _ _ | with_reducible refine Below.setCell ?_ (by first | omega | (simp <;> omega)) _ | with_reducible refine Below.alloc ?_ (by first | omega | (simp <;> omega)) _ | with_reducible refine Below.drew ?_ | with_reducible refine Below.drewN ?_ _))⟩
      simp [results, Tryz.results72, go_sem, *]

/-! ### texts -/
/-- a text's byte as a number -/
def byt (s : ByteArray) (k : Nat) : Int := if h : k < s.size then (s[k].toNat : Int) else 0
theorem byt_lo (s : ByteArray) (k : Nat) : 0 ≤ byt s k := by unfold byt; split <;> omega
theorem byt_hi (s : ByteArray) (k : Nat) : byt s k < 256 := by
  unfold byt; split
  · have := s[k].toNat_lt; omega
  · omega
theorem byt_run (s : ByteArray) {k : Nat} (h : k < s.size) : ∀ w, (Instr.index 9 (.string s) (.int .i64 k)).run Tryz.prog w = .ok (.int .u8 (byt s k)) w := by
  intro w
  rw [run_index_string w 9 s .i64 k Tryz.underlying9, dif_pos ⟨by omega, by omega⟩]
  simp [byt, h]
/-- the digits of a text's first bytes -/
def digs (s : ByteArray) (k : Nat) : List Int := (List.range k).map fun j => byt s j - 48
theorem digs_length (s : ByteArray) (k : Nat) : (digs s k).length = k := by simp [digs]
theorem digs_succ (s : ByteArray) (k : Nat) : digs s (k + 1) = digs s k ++ [byt s k - 48] := by simp [digs, List.range_succ]
theorem gi_digs (s : ByteArray) {k n : Nat} (h : k < n) : gi (digs s n) k = byt s k - 48 := by simp [gi, digs, List.getD, h]

def readR (s : ByteArray) : M := mapOfR (digs s s.size)
def readC (s : ByteArray) : Int := if mapOfOk (digs s s.size) then 0 else 6

end Go.Proofs.YtkbfocoaobiijaaGreat

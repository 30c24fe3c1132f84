/- Contracts of the functions that write a map as a text; the maps are valid where the theorems say so. -/
import Derived.Test.YtfadakdalijjfaaC4
import Derived.Test.YtfadakdalijjfaaSlB
import Derived.Test.YtfadakdalijjfaaReg
import Derived.Test.YtfadakdalijjfaaS1
import Derived.Laws.Concat
import Derived.IntWalk
namespace Go.Proofs.Ytfadakdalijjfaa
open Go.RowKit
set_option maxRecDepth 100000

/-- the digit of a number below ten -/
def dg (n : Int) : UInt8 := UInt8.ofNat (48 + n.toNat)
theorem dg_nat {n : Int} (h0 : 0 ≤ n) (h9 : n < 10) : ((dg n).toNat : Int) = 48 + n := by
  unfold dg
  rw [UInt8.toNat_ofNat']
  omega

theorem l01Dec_any (n : Int) (w : World) (h0 : 0 ≤ n) (h9 : n < 10) :
    Calls Try.prog 68 #[I n] w fun e w' => e = .returned (.string ⟨#[dg n]⟩) ∧ Below w.heap.size w w' := by
  have w1 : IntKind.i64.wrap (48 + n) = 48 + n := IntWalk.i64_in _ ⟨by omega, by omega⟩
  have w2 : IntKind.u8.wrap (48 + n) = 48 + n := by simp [IntKind.wrap, IntKind.signed, IntKind.bits]; omega
  have h1 : ¬ n < 0 := by omega
  have hc : ∀ c, (convert 73 9 (.slice (some ⟨w.heap.size, 0, none⟩) 1 c)).run Try.prog (w.alloc (.cells #[.int .u8 (48 + n)] 5)) = .ok (.string ⟨#[dg n]⟩) (w.alloc (.cells #[.int .u8 (48 + n)] 5)) := by
    intro c
    refine textOf (zs := [dg n]) (B := w.heap.size + 1) ⟨by simp [cB], fun _ => ⟨w.heap.size, 0, rfl, by omega, fun j u hj => ?_⟩⟩ rfl (by decide)
    match j, hj with
    | 0, hj =>
      simp [cB] at hj
      subst hj
      rw [dg_nat h0 h9]
      exact World.cell?_alloc_mark w #[.int .u8 (48 + n)] 5 (0, 0) 0
  go_enter Try.func68, Try.ntmps68
  go_wp2
  go_ret
  exact ⟨rfl, by (repeat (first | with_reducible assumption | with_reducible exact Below.refl _ _ | with_reducible refine Below.setCell ?_ (by first | omega | (simp <;> omega)) _ | with_reducible refine Below.alloc ?_ (by first | omega | (simp <;> omega)) _ | with_reducible refine Below.drew ?_ | with_reducible refine Below.drewN ?_ _))⟩

/-- the text of a map's first points -/
def txt (f : M) (k : Nat) : List UInt8 := (List.range k).map fun j => dg (f.at j)
theorem txt_length (f : M) (k : Nat) : (txt f k).length = k := by simp [txt]
theorem txt_succ (f : M) (k : Nat) : txt f (k + 1) = txt f k ++ [dg (f.at k)] := by simp [txt, List.range_succ]
def ba (l : List UInt8) : ByteArray := ⟨l.toArray⟩
theorem add_txt (f : M) {k : Nat} (hk : k ≤ 10) (w : World) : (Op.stringOp .add (ba (txt f k)) ⟨#[dg (f.at k)]⟩).run Try.prog w = .ok (.string (ba (txt f (k + 1)))) w := by
  have := run_string_add_lists (P := Try.prog) w (txt f k) [dg (f.at k)] (by rw [txt_length]; omega) (by simp)
  rw [txt_succ]
  exact this

theorem l01Text_any (f : M) (w : World) (hf : Valid f) :
    Calls Try.prog 52 #[.agg (mc f)] w fun e w' => e = .returned (.string (ba (txt f f.p.toNat))) ∧ Below w.heap.size w w' := by
  have hp1 := hf.p1
  have hp5 := hf.p5
  go_enter Try.func52, Try.ntmps52
  go_wp2
  go_loopw [3, 4] (fun s i wr => ∃ k : Nat, (k : Int) ≤ f.p ∧ s = .string (ba (txt f k)) ∧ i = .int .i64 k ∧ Blk wr w.heap.size 27 (mc f) ∧ Below w.heap.size w wr) (fun _ i _ => 5 - (intOf i).toNat)
  case atStart => exact ⟨0, by omega, rfl, rfl, Blk.new _ _ _, by (repeat (first | with_reducible assumption | with_reducible exact Below.refl _ _ | with_reducible refine Below.setCell ?_ (by first | omega | (simp <;> omega)) _ | with_reducible refine Below.alloc ?_ (by first | omega | (simp <;> omega)) _ | with_reducible refine Below.drew ?_ | with_reducible refine Below.drewN ?_ _))⟩
  case round =>
    obtain ⟨k, hk, rfl, rfl, hB, hbel⟩ := hrel
    have c0 : wr.cell? ⟨w.heap.size, 0, none⟩ = some (I f.p) := hB.cell 0
    by_cases hlt : (k : Int) < f.p
    · have c1 := hB.at_ (k := k) (by omega)
      have b1 := hf.lo k (by omega) hlt
      have b2 := hf.hi k (by omega) hlt
      have hadd := add_txt f (k := k) (by omega)
      go_wp2_with fail
      refine (l01Dec_any (f.at k) _ b1 (by omega)).mono ?_
      rintro e w1 ⟨rfl, hb⟩
      replace hB := hB.below hb hB.lt
      replace hbel := hbel.trans (hb.mono hbel.size)
      clear hb c0 c1
      go_wp2
      go_roundw
      case rel => exact ⟨k + 1, by omega, rfl, by go_num, hB, hbel⟩
      case measure => simp [intOf]; omega
    · obtain rfl : k = f.p.toNat := by omega
      go_wp2
      go_ret
      exact ⟨rfl, hbel⟩

theorem text_any (f : M) (w : World) (hf : Valid f) :
    Calls Try.prog 53 #[.agg (mc f)] w fun e w' => e = .returned (.string (ba (txt f f.p.toNat))) ∧ Below w.heap.size w w' := by
  have hp1 := hf.p1
  have hp5 := hf.p5
  go_enter Try.func53, Try.ntmps53
  go_wp2_with fail
  refine (images_any f _ hf).mono ?_
  rintro e w1 ⟨v, rfl, ho, hb⟩
  obtain ⟨A, c, hv, hr⟩ := ho.form
  rw [imgs_length] at hv
  subst hv
  have hbel : Below w.heap.size w w1 := Below.trans (by (repeat (first | with_reducible assumption | with_reducible exact Below.refl _ _ | with_reducible refine Below.setCell ?_ (by first | omega | (simp <;> omega)) _ | with_reducible refine Below.alloc ?_ (by first | omega | (simp <;> omega)) _ | with_reducible refine Below.drew ?_ | with_reducible refine Below.drewN ?_ _))) (hb.mono (by simp))
  obtain ⟨n, hn⟩ : ∃ n, n = f.p.toNat := ⟨_, rfl⟩
  rw [← hn] at hr ⊢
  have hn1 : (n : Int) = f.p := by omega
  have Hn := Lib.hid hn
  have hn5 : n ≤ 5 := by omega
  have Hr := Lib.hid hr
  have Hn1 := Lib.hid hn1
  clear hb ho hn hr hn1
  go_wp2_with fail
  go_loopw [3, 9] (fun s i wr => ∃ k : Nat, k ≤ n ∧ OwB 5 wr w1.heap.size s (txt f k) ∧ i = .int .i64 k ∧ Hid (RdI wr w1.heap.size A (imgs f n)) ∧ Below w1.heap.size w1 wr) (fun _ i _ => n - (intOf i).toNat)
  case atStart => exact ⟨0, by omega, OwB.nil_, rfl, Hr, Below.refl _ _⟩
  case round =>
    obtain ⟨k, hk, ho, rfl, Hr2, hb2⟩ := hrel
    obtain ⟨S, cs, hv, hrb⟩ := ho.form
    rw [txt_length] at hv
    subst hv
    have Hrb := Lib.hid hrb
    clear hrb
    by_cases hlt : k < n
    · obtain ⟨b, off, rfl, hbb, c1⟩ := RdI.at_ Hr2.out (k := k) (by rw [imgs_length]; exact hlt)
      have e1 : gi (imgs f n) k = f.at k := by simp [gi, imgs, List.getD, hlt]
      rw [e1] at c1
      clear e1
      have b1 := hf.lo k (by omega) (by have := Hn1.out; omega)
      have b2 := hf.hi k (by omega) (by have := Hn1.out; omega)
      have w2 : IntKind.u8.wrap (f.at k) = f.at k := by simp [IntKind.wrap, IntKind.signed, IntKind.bits]; omega
      have w3 : IntKind.u8.wrap (48 + f.at k) = 48 + f.at k := by simp [IntKind.wrap, IntKind.signed, IntKind.bits]; omega
      have Hd := Lib.hid (dg_nat b1 (by omega))
      have hsz := hb2.size
      go_wp2_with (at_builtin; refine wpList_pushB rfl (.tmp 13) (.tmp 17) rfl w1.heap.size (.slice S k cs) (txt f k) rfl (ho.alloc _) k (txt_length f k) wr.heap.size 1 (dg (f.at k)) rfl (by rw [Hd.out]; exact (Blk.new _ _ _).cell 0) (by omega) (by simp; omega) (wr.heap.size + 1) (by simp) ?_; intro g' cap w4 ho' hgr hg' hlt')
      go_roundw
      case rel => exact ⟨k + 1, by omega, by rw [txt_succ]; exact ho', by go_num, (Rd.alloc Hr2.out hsz _).grown hgr (by simp; omega) (fun g hg => (ho.lt g hg).1), (ho.alloc _).bel (hb2.alloc hsz _) hgr (Nat.le_refl _) (by simp; omega)⟩
      case measure => simp [intOf]; omega
    · obtain rfl : k = n := by omega
      have hpos : 0 < k := by have := Hn1.out; omega
      have hc := textOf (c := cs) Hrb.out (txt_length f k) hpos
      have Hn2 := Lib.hid (hbel.trans (hb2.mono hbel.size))
      go_wp2
      go_ret
      exact ⟨by rw [← Hn.out]; rfl, Hn2.out⟩

def txtR (f : M) : ByteArray := if isMap f then ba (txt f f.p.toNat) else ⟨#[]⟩
theorem txtR_bad {f : M} (h : isMap f = false) : txtR f = ⟨#[]⟩ := by simp [txtR, h]
theorem txtR_good {f : M} (h : isMap f = true) : txtR f = ba (txt f f.p.toNat) := by simp [txtR, h]

theorem ImplMapText_any (f : M) (w : World) :
    Calls Try.prog 28 #[.agg (mc f)] w fun e w' => e = .returned (.tuple #[.string (txtR f), I (cInv (isMap f))]) ∧ Below w.heap.size w w' := by
  cases h : isMap f
  · have Hr := Lib.hid (txtR_bad h)
    go_enter Try.func28, Try.ntmps28
    go_wp2_with fail
    refine (isMap_any _ _).mono ?_
    rintro e w1 ⟨rfl, hb⟩
    rw [h]
    have hbel : Below w.heap.size w w1 := Below.trans (by (repeat (first | with_reducible assumption | with_reducible exact Below.refl _ _ | with_reducible refine Below.setCell ?_ (by first | omega | (simp <;> omega)) _ | with_reducible refine Below.alloc ?_ (by first | omega | (simp <;> omega)) _ | with_reducible refine Below.drew ?_ | with_reducible refine Below.drewN ?_ _))) (hb.mono (by simp <;> omega))
    clear hb
    go_wp2
    go_ret2
    exact ⟨by rw [Hr.out] <;> rfl, hbel⟩
  · have Hr := Lib.hid (txtR_good h)
    have hv := (isMap_iff f).1 h
    go_enter Try.func28, Try.ntmps28
    go_wp2_with fail
    refine (isMap_any _ _).mono ?_
    rintro e w1 ⟨rfl, hb⟩
    rw [h]
    have hs : Six w1 w.heap.size f := Six.below (Blk.six (Blk.new w _ _)) hb (by simp)
    have hbel : Below w.heap.size w w1 := Below.trans (by (repeat (first | with_reducible assumption | with_reducible exact Below.refl _ _ | with_reducible refine Below.setCell ?_ (by first | omega | (simp <;> omega)) _ | with_reducible refine Below.alloc ?_ (by first | omega | (simp <;> omega)) _ | with_reducible refine Below.drew ?_ | with_reducible refine Below.drewN ?_ _))) (hb.mono (by simp <;> omega))
    clear hb
    go_wp2_with fail
    refine (text_any f _ hv).mono ?_
    rintro e w2 ⟨rfl, hb⟩
    replace hbel := hbel.trans (hb.mono hbel.size)
    clear hb
    go_wp2
    go_ret2
    exact ⟨by rw [Hr.out] <;> rfl, hbel⟩

theorem SpecMapText_any (f : M) (w : World) :
    Calls Try.prog 27 #[.agg (mc f)] w fun e w' => e = .returned (.tuple #[.string (txtR f), I (cInv (isMap f))]) ∧ Below w.heap.size w w' := by
  cases h : isMap f
  · have Hr := Lib.hid (txtR_bad h)
    go_enter Try.func27, Try.ntmps27
    go_wp2_with fail
    refine (l01Is_any _ _).mono ?_
    rintro e w1 ⟨rfl, hb⟩
    rw [h]
    have hbel : Below w.heap.size w w1 := Below.trans (by (repeat (first | with_reducible assumption | with_reducible exact Below.refl _ _ | with_reducible refine Below.setCell ?_ (by first | omega | (simp <;> omega)) _ | with_reducible refine Below.alloc ?_ (by first | omega | (simp <;> omega)) _ | with_reducible refine Below.drew ?_ | with_reducible refine Below.drewN ?_ _))) (hb.mono (by simp <;> omega))
    clear hb
    go_wp2
    go_ret2
    exact ⟨by rw [Hr.out] <;> rfl, hbel⟩
  · have Hr := Lib.hid (txtR_good h)
    have hv := (isMap_iff f).1 h
    go_enter Try.func27, Try.ntmps27
    go_wp2_with fail
    refine (l01Is_any _ _).mono ?_
    rintro e w1 ⟨rfl, hb⟩
    rw [h]
    have hs : Six w1 w.heap.size f := Six.below (Blk.six (Blk.new w _ _)) hb (by simp)
    have hbel : Below w.heap.size w w1 := Below.trans (by (repeat (first | with_reducible assumption | with_reducible exact Below.refl _ _ | with_reducible refine Below.setCell ?_ (by first | omega | (simp <;> omega)) _ | with_reducible refine Below.alloc ?_ (by first | omega | (simp <;> omega)) _ | with_reducible refine Below.drew ?_ | with_reducible refine Below.drewN ?_ _))) (hb.mono (by simp <;> omega))
    clear hb
    go_wp2_with fail
    refine (l01Text_any f _ hv).mono ?_
    rintro e w2 ⟨rfl, hb⟩
    replace hbel := hbel.trans (hb.mono hbel.size)
    clear hb
    go_wp2
    go_ret2
    exact ⟨by rw [Hr.out] <;> rfl, hbel⟩

end Go.Proofs.Ytfadakdalijjfaa

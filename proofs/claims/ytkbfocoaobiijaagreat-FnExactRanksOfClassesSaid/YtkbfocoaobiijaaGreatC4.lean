/- Contracts of the functions that list the images of a map; no conditions beyond those that each theorem states. -/
import Derived.Test.YtkbfocoaobiijaaGreatC2
import Derived.Test.YtkbfocoaobiijaaGreatSl
import Derived.WalkSpells
namespace Go.Proofs.YtkbfocoaobiijaaGreat
open Go.RowKit
set_option maxRecDepth 100000

theorem l01List_any (f : M) (w : World) (hf : Valid f) :
    Calls Tryz.prog 192 #[.agg (mc f)] w fun e w' => ∃ v, e = .returned v ∧ OwI 2 w' w.heap.size v (imgs f f.p.toNat) ∧ Below w.heap.size w w' := by
  have hp1 := hf.p1
  have hp5 := hf.p5
  go_enter Tryz.func192, Tryz.ntmps192
  go_wp2
  go_loopw [3, 4] (fun v i wr => ∃ k : Nat, (k : Int) ≤ f.p ∧ i = .int .i64 k ∧ OwI 2 wr (w.heap.size + 1) v (imgs f k) ∧ Blk wr w.heap.size 31 (mc f) ∧ Below w.heap.size w wr) (fun _ i _ => 5 - (intOf i).toNat)
  case atStart => exact ⟨0, by omega, rfl, OwI.made' (by simp) (Nat.le_refl _), (Blk.new _ _ _).alloc _, by (repeat (first | with_reducible assumption | with_reducible exact Below.refl _ _ | with_reducible refine Below.setCell ?_ (by first | omega | (simp <;> omega)) _ | with_reducible refine Below.alloc ?_ (by first | omega | (simp <;> omega)) _ | with_reducible refine Below.drew ?_ | with_reducible refine Below.drewN ?_ _))⟩
  case round =>
    obtain ⟨k, hk, rfl, hown, hB, hbel⟩ := hrel
    obtain ⟨A, c, rfl, _⟩ := hown.form
    have c0 : wr.cell? ⟨w.heap.size, 0, none⟩ = some (I f.p) := hB.cell 0
    by_cases hlt : (k : Int) < f.p
    · have c1 := hB.at_ (k := k) (by omega)
      go_wp2_with (at_builtin; refine wpList_pushI rfl (.tmp 12) (.tmp 17) rfl (w.heap.size + 1) _ (imgs f k) rfl (hown.alloc _) wr.heap.size 1 (f.at k) rfl ((Blk.new _ _ _).cell 0) (by rw [imgs_length]; omega) (by have := hbel.size; simp; omega) (wr.heap.size + 1) (by simp) ?_; intro g' cap w1 hown' hgr hg' hlt')
      go_roundw
      case rel => exact ⟨k + 1, by omega, by go_num, by rw [imgs_succ]; simpa using hown', (hB.alloc _).grown hgr (hown.ne (by omega)), hown.alloc _ |>.bel (hbel.alloc hbel.size _) hgr (by omega) (by have := hbel.size; simp; omega)⟩
      case measure => simp [intOf]; omega
    · obtain rfl : k = f.p.toNat := by omega
      go_wp2
      go_ret
      exact ⟨_, rfl, hown.mono (by omega), hbel⟩

theorem Clone_any (b off c : Nat) (ys : List Int) (w : World) (hy : RdI w w.heap.size (some ⟨b, off, none⟩) ys) (hpos : 0 < ys.length) (hn : ys.length < 1073741824) :
    Calls Tryz.prog 220 #[.slice (some ⟨b, off, none⟩) ys.length c] w fun e w' => ∃ g cap, e = .returned (.slice (some ⟨g, 0, none⟩) ys.length cap) ∧ OwI 2 w' w.heap.size (.slice (some ⟨g, 0, none⟩) ys.length cap) ys ∧ Below w.heap.size w w' := by
  have hnil := fun w => Lib.run_eql_slice_nil (P := Tryz.prog) w 39 2 (some ⟨b, off, none⟩) ys.length c 0 0 Tryz.underlying39
  go_enter Tryz.func220, Tryz.ntmps220
  go_wp2_with (at_builtin; refine wpList_appI rfl (.tmp 5) (.tmp 6) rfl w.heap.size _ [] rfl (OwI.made' rfl (Nat.le_refl _)) b off c ys rfl (Rd.more (Rd.alloc hy (Nat.le_refl _) _) (by simp)) hpos (by simpa using hn) (by simp) (w.heap.size + 1) (by simp) ?_; intro g' cap w1 hown' hgr hg' hlt')
  go_ret
  refine ⟨g', cap, by simp, by simpa using hown', ?_⟩
  exact (OwI.made' rfl (Nat.le_refl _) : OwI 2 _ w.heap.size _ []).bel (by (repeat (first | with_reducible assumption | with_reducible exact Below.refl _ _ | with_reducible refine Below.setCell ?_ (by first | omega | (simp <;> omega)) _ | with_reducible refine Below.alloc ?_ (by first | omega | (simp <;> omega)) _ | with_reducible refine Below.drew ?_ | with_reducible refine Below.drewN ?_ _))) hgr (Nat.le_refl _) (by simp)

theorem rd_box {w : World} {g : Nat} {t : TypeId} {f : M} {B : Nat} (h : Blk w g t (mc f)) (hg : g < B) {n : Nat} (hn : n ≤ 5) : RdI w B (some ⟨g, 1, none⟩) (imgs f n) := by
  refine ⟨by simp [cI], fun _ => ⟨g, 1, rfl, hg, fun j u hu => ?_⟩⟩
  have hj : j < (imgs f n).length := by
    rcases Nat.lt_or_ge j (imgs f n).length with h | h
    · exact h
    · rw [List.getElem?_eq_none (by rw [cI_length]; exact h)] at hu; cases hu
  rw [cI_get hj] at hu
  injection hu with hu
  subst hu
  rw [imgs_length] at hj
  rw [h.at_ (by omega)]
  simp [gi, imgs, List.getD, hj]

theorem slc1 (g : Nat) (w : World) : (Instr.sliceAt 29 (.pointer (some ⟨g, 1, none⟩)) none (some (I 1)) none).run Tryz.prog w = .ok (.slice (some ⟨g, 1, none⟩) 1 5) w := by kernel_rfl

theorem slc2 (g : Nat) (w : World) : (Instr.sliceAt 29 (.pointer (some ⟨g, 1, none⟩)) none (some (I 2)) none).run Tryz.prog w = .ok (.slice (some ⟨g, 1, none⟩) 2 5) w := by kernel_rfl

theorem slc3 (g : Nat) (w : World) : (Instr.sliceAt 29 (.pointer (some ⟨g, 1, none⟩)) none (some (I 3)) none).run Tryz.prog w = .ok (.slice (some ⟨g, 1, none⟩) 3 5) w := by kernel_rfl

theorem slc4 (g : Nat) (w : World) : (Instr.sliceAt 29 (.pointer (some ⟨g, 1, none⟩)) none (some (I 4)) none).run Tryz.prog w = .ok (.slice (some ⟨g, 1, none⟩) 4 5) w := by kernel_rfl

theorem slc5 (g : Nat) (w : World) : (Instr.sliceAt 29 (.pointer (some ⟨g, 1, none⟩)) none (some (I 5)) none).run Tryz.prog w = .ok (.slice (some ⟨g, 1, none⟩) 5 5) w := by kernel_rfl

theorem slice5 (g : Nat) (p : Int) (h1 : 1 ≤ p) (h5 : p ≤ 5) : ∀ w, (Instr.sliceAt 29 (.pointer (some ⟨g, 1, none⟩)) none (some (I p)) none).run Tryz.prog w = .ok (.slice (some ⟨g, 1, none⟩) p.toNat 5) w := by
  intro w
  have h : p = 1 ∨ p = 2 ∨ p = 3 ∨ p = 4 ∨ p = 5 := by omega
  rcases h with rfl | rfl | rfl | rfl | rfl
  · exact slc1 g w
  · exact slc2 g w
  · exact slc3 g w
  · exact slc4 g w
  · exact slc5 g w

theorem images_any (f : M) (w : World) (hf : Valid f) :
    Calls Tryz.prog 181 #[.agg (mc f)] w fun e w' => ∃ v, e = .returned v ∧ OwI 2 w' w.heap.size v (imgs f f.p.toNat) ∧ Below w.heap.size w w' := by
  have hp1 := hf.p1
  have hp5 := hf.p5
  have hl := imgs_length f f.p.toNat
  have hr := rd_box (B := w.heap.size + 1) (Blk.new w 31 (mc f)) (by omega) (n := f.p.toNat) (by omega)
  have hsl := slice5 w.heap.size f.p hp1 hp5
  have Hr := Lib.hid hr
  have Hl := Lib.hid hl
  clear hr hl
  go_enter Tryz.func181, Tryz.ntmps181
  go_wp2_with fail
  have hlen := Hl.out
  have hcl := Clone_any w.heap.size 1 5 (imgs f f.p.toNat) (w.alloc (.cells (mc f) 31)) (by simpa using Hr.out) (by omega) (by omega)
  rw [hlen] at hcl
  clear hlen
  refine hcl.mono ?_
  rintro e w1 ⟨g, cap, rfl, hown, hb⟩
  go_wp2
  go_ret
  exact ⟨_, rfl, hown.mono (by simp), Below.trans (by (repeat (first | with_reducible assumption | with_reducible exact Below.refl _ _ | with_reducible refine Below.setCell ?_ (by first | omega | (simp <;> omega)) _ | with_reducible refine Below.alloc ?_ (by first | omega | (simp <;> omega)) _ | with_reducible refine Below.drew ?_ | with_reducible refine Below.drewN ?_ _))) (hb.mono (by simp))⟩

def imgsR (f : M) : List Int := if isMap f then imgs f f.p.toNat else []

theorem ImplImages_any (f : M) (w : World) :
    Calls Tryz.prog 71 #[.agg (mc f)] w fun e w' => ∃ v, e = .returned (.tuple #[v, I (cInv (isMap f))]) ∧ OwI 2 w' w.heap.size v (imgsR f) ∧ Below w.heap.size w w' := by
  cases hm : isMap f
  · have Hr : Hid (imgsR f = []) := by show _ = _; simp [imgsR, hm]
    go_enter Tryz.func71, Tryz.ntmps71
    go_wp2_with (go_at_call 67; refine (isMap_any _ _).mono ?_; rintro e w1 ⟨rfl, hb⟩)
    go_ret2
    exact ⟨_, rfl, by rw [Hr.out]; exact OwI.nil_, Below.trans (by (repeat (first | with_reducible assumption | with_reducible exact Below.refl _ _ | with_reducible refine Below.setCell ?_ (by first | omega | (simp <;> omega)) _ | with_reducible refine Below.alloc ?_ (by first | omega | (simp <;> omega)) _ | with_reducible refine Below.drew ?_ | with_reducible refine Below.drewN ?_ _))) (hb.mono (by simp))⟩
  · have hf := (isMap_iff f).1 hm
    have Hr : Hid (imgsR f = imgs f f.p.toNat) := by show _ = _; simp [imgsR, hm]
    go_enter Tryz.func71, Tryz.ntmps71
    go_wp2_with fail
    refine (isMap_any _ _).mono ?_
    rintro e w1 ⟨rfl, hb⟩
    have hl : Below w.heap.size w w1 := Below.trans (by (repeat (first | with_reducible assumption | with_reducible exact Below.refl _ _ | with_reducible refine Below.setCell ?_ (by first | omega | (simp <;> omega)) _ | with_reducible refine Below.alloc ?_ (by first | omega | (simp <;> omega)) _ | with_reducible refine Below.drew ?_ | with_reducible refine Below.drewN ?_ _))) (hb.mono (by simp))
    have hs : Six w1 w.heap.size f := Six.below (Blk.six (Blk.new w _ _)) hb (by simp)
    clear hb
    go_wp2_with fail
    refine (images_any _ _ hf).mono ?_
    rintro e w2 ⟨v, rfl, ho, hb⟩
    go_wp2
    go_ret2
    exact ⟨_, rfl, by rw [Hr.out]; exact ho.mono hl.size, hl.trans (hb.mono hl.size)⟩

theorem SpecImages_any (f : M) (w : World) :
    Calls Tryz.prog 89 #[.agg (mc f)] w fun e w' => ∃ v, e = .returned (.tuple #[v, I (cInv (isMap f))]) ∧ OwI 2 w' w.heap.size v (imgsR f) ∧ Below w.heap.size w w' := by
  cases hm : isMap f
  · have Hr : Hid (imgsR f = []) := by show _ = _; simp [imgsR, hm]
    go_enter Tryz.func89, Tryz.ntmps89
    go_wp2_with (go_at_call 179; refine (l01Is_any _ _).mono ?_; rintro e w1 ⟨rfl, hb⟩)
    go_ret2
    exact ⟨_, rfl, by rw [Hr.out]; exact OwI.nil_, Below.trans (by (repeat (first | with_reducible assumption | with_reducible exact Below.refl _ _ | with_reducible refine Below.setCell ?_ (by first | omega | (simp <;> omega)) _ | with_reducible refine Below.alloc ?_ (by first | omega | (simp <;> omega)) _ | with_reducible refine Below.drew ?_ | with_reducible refine Below.drewN ?_ _))) (hb.mono (by simp))⟩
  · have hf := (isMap_iff f).1 hm
    have Hr : Hid (imgsR f = imgs f f.p.toNat) := by show _ = _; simp [imgsR, hm]
    go_enter Tryz.func89, Tryz.ntmps89
    go_wp2_with fail
    refine (l01Is_any _ _).mono ?_
    rintro e w1 ⟨rfl, hb⟩
    have hl : Below w.heap.size w w1 := Below.trans (by (repeat (first | with_reducible assumption | with_reducible exact Below.refl _ _ | with_reducible refine Below.setCell ?_ (by first | omega | (simp <;> omega)) _ | with_reducible refine Below.alloc ?_ (by first | omega | (simp <;> omega)) _ | with_reducible refine Below.drew ?_ | with_reducible refine Below.drewN ?_ _))) (hb.mono (by simp))
    have hs : Six w1 w.heap.size f := Six.below (Blk.six (Blk.new w _ _)) hb (by simp)
    clear hb
    go_wp2_with fail
    refine (l01List_any _ _ hf).mono ?_
    rintro e w2 ⟨v, rfl, ho, hb⟩
    go_wp2
    go_ret2
    exact ⟨_, rfl, by rw [Hr.out]; exact ho.mono hl.size, hl.trans (hb.mono hl.size)⟩

theorem imgsR_len (f : M) : (imgsR f).length < 1073741824 := by
  unfold imgsR
  split
  · rename_i h
    have := ((isMap_iff f).1 h).p5
    rw [imgs_length]; omega
  · simp

end Go.Proofs.YtkbfocoaobiijaaGreat

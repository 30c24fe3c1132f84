/- The contract of slices.SortFunc on lists of maps by their order; no conditions beyond those that each theorem states. -/
import Derived.Test.YtkbfocoaobiijaaGreatNA
import Derived.Test.YtkbfocoaobiijaaGreatSortf
import Derived.Lib.RowBridge
namespace Go.Proofs.YtkbfocoaobiijaaGreat
open Go.RowKit
set_option maxRecDepth 100000

instance : Inhabited M := ⟨M0⟩
abbrev encM (m : M) : List Value := (mc m).toList
theorem ltM (x y : M) : ltOf cmpM x y = lessM x y := by
  have := cmpM_bd x y
  unfold ltOf lessM
  rw [Bool.eq_iff_iff, decide_eq_true_eq, decide_eq_true_eq]
  omega
theorem lessM_ntrans {x y z : M} (h1 : lessM x y = false) (h2 : lessM y z = false) : lessM x z = false := by
  rw [Bool.eq_false_iff]
  intro h
  by_cases e : x = y
  · subst e; rw [h] at h2; cases h2
  · have h3 := (lessM_tot e).resolve_left (by rw [h1]; simp)
    have := lessM_trans h3 h
    rw [h2] at this; cases this
theorem swoM : Sort.SWO (ltOf cmpM) :=
  ⟨fun x => by rw [ltM]; exact lessM_irr x, fun x y z h1 h2 => by rw [ltM] at *; exact lessM_trans h1 h2, fun x y z h1 h2 => by rw [ltM] at *; exact lessM_ntrans h1 h2⟩
theorem totM (x y : M) (h1 : ltOf cmpM x y = false) (h2 : ltOf cmpM y x = false) : x = y := by
  rw [ltM] at h1 h2
  refine Classical.byContradiction fun hne => ?_
  rcases lessM_tot hne with h | h
  · rw [h1] at h; cases h
  · rw [h2] at h; cases h
/-- the kit's sorted list is ours -/
theorem merge_sortM {ms : List M} (hn : ms.Nodup) : (ms.mergeSort fun x y => !ltOf cmpM y x) = sortM ms := by
  have hp := List.mergeSort_perm ms fun x y => !ltOf cmpM y x
  have hs := List.pairwise_mergeSort (le := fun x y => !ltOf cmpM y x)
    (fun a b c h1 h2 => by
      simp only [ltM, Bool.not_eq_true'] at *
      exact lessM_ntrans h2 h1)
    (fun a b => by
      simp only [ltM, Bool.or_eq_true, Bool.not_eq_true']
      by_cases h : lessM b a = true
      · right; exact lessM_asym h
      · left; simpa using h) ms
  refine (sortM_eq ?_ fun z => hp.mem_iff).symm
  have hnd := hp.nodup_iff.2 hn
  refine (hs.and hnd).imp fun {a b} h => ?_
  obtain ⟨h1, h2⟩ := h
  simp only [ltM, Bool.not_eq_true'] at h1
  exact (lessM_tot h2).resolve_right (by rw [h1]; simp)

/-- a world that has more draws and blocks -/
theorem grows_of {w w' : World} (hb : Below w.heap.size w w') (hd : w.drawn ≤ w'.drawn) : ∃ q os, w' = Sort.grow (w.drewN q) os := by
  refine ⟨w'.drawn - w.drawn, w'.heap.extract w.heap.size w'.heap.size, ?_⟩
  obtain ⟨h1, t1, d1, o1, p1⟩ := w
  obtain ⟨h2, t2, d2, o2, p2⟩ := w'
  obtain ⟨e1, e2, e3, e4, e5⟩ := hb
  simp only at e1 e2 e3 e4 e5 hd
  subst e1 e2 e3
  have e6 : h1 ++ h2.extract h1.size h2.size = h2 := by
    apply Array.ext_getElem?
    intro k
    by_cases hk : k < h1.size
    · rw [Array.getElem?_append_left hk]; exact (e5 k hk).symm
    · rw [Array.getElem?_append_right (by omega), Array.getElem?_extract]
      by_cases hk2 : k < h2.size
      · rw [if_pos (by omega)]; congr 1; omega
      · rw [if_neg (by omega), Array.getElem?_eq_none (by omega)]
  unfold Sort.grow World.drewN
  simp only [e6]
  congr 1
  omega

theorem compareL_w (f g : M) (b d : Nat) (w : World) (hx : Six w b f) (hy : Six w d g) :
    Calls Tryz.prog 136 #[.slice (some ⟨b, 1, none⟩) 5 5, .slice (some ⟨d, 1, none⟩) 5 5] w fun e w' => e = .returned (I (cmpL (imgs f 5) (imgs g 5))) ∧ w = w' :=
  compareL_any _ _ 5 5 5 5 (imgs f 5) (imgs g 5) w (rd_six hx hx.lt) (rd_six hy hy.lt) (imgs_length _ _) (imgs_length _ _) (by omega) (by omega)

theorem compareM_grow (f g : M) (w : World) :
    Calls Tryz.prog 198 #[.agg (mc f), .agg (mc g)] w fun e w' => e = .returned (I (cmpM f g)) ∧ Below w.heap.size w w' ∧ w.drawn ≤ w'.drawn := by
  have sl0 := slc0 w.heap.size
  have sl1 := slc0 (w.heap.size + 1)
  go_enter Tryz.func198, Tryz.ntmps198
  go_wp2_with fail
  refine wp_region_boxG (fun q => .slice (some ⟨q, 0, none⟩) 2 2) [] rfl (by kernel_rfl) (by kernel_rfl) (by kernel_rfl) (fun w' => Six w' w.heap.size f ∧ Six w' (w.heap.size + 1) g ∧ Below w.heap.size w w' ∧ w.drawn ≤ w'.drawn) _
    (fun q => [.pointer (some ⟨w.heap.size, 0, none⟩), I f.p, .pointer (some ⟨w.heap.size + 1, 0, none⟩), I g.p, I (cmpI f.p g.p), .pointer (some ⟨w.heap.size, 1, none⟩), .slice (some ⟨w.heap.size, 1, none⟩) 5 5, .pointer (some ⟨w.heap.size + 1, 1, none⟩), .slice (some ⟨w.heap.size + 1, 1, none⟩) 5 5, I (cmpL (imgs f 5) (imgs g 5)), .slice (some ⟨q, 0, none⟩) 2 2, I (cmpM f g), I (cmpM f g)])
    (by intro q; simp only [putAll, List.setIfInBounds_toArray, List.set_cons_succ, List.set_cons_zero]; rfl) ?hS 10 11 15 _ _ rfl rfl 3 #[I (cmpI f.p g.p), I (cmpL (imgs f 5) (imgs g 5))] #[I (cmpI f.p g.p), I (cmpL (imgs f 5) (imgs g 5))] (by kernel_rfl) (by kernel_rfl) (by decide) (fun _ _ => rfl) ?hop ?hal ?hst ?hQ
  case hS => exact ⟨Six.alloc (Blk.six (Blk.new w _ _)) _, Blk.six (Blk.new' _ _ _ (by simp)), by (repeat (first | with_reducible assumption | with_reducible exact Below.refl _ _ | with_reducible refine Below.setCell ?_ (by first | omega | (simp <;> omega)) _ | with_reducible refine Below.alloc ?_ (by first | omega | (simp <;> omega)) _ | with_reducible refine Below.drew ?_ | with_reducible refine Below.drewN ?_ _)), Nat.le_succ _⟩
  case hop =>
    intro q
    refine ⟨.inr ?_, .inr ?_, .inr ?_, .inr ?_, .inr ?_, .inr ?_, .inr ?_, .inr ?_, .inr ?_, .inr ?_, .inl rfl, .inl rfl, .inr ?_, trivial⟩
    · (with_reducible refine Fix.of ?_ ?_; rfl; intro w' hS; have s0 := hS.1; have s1 := hS.2.1; have s2 := hS.2.2; unfold Oper.wp; go_simp; first | exact ⟨⟨hS.1, hS.2.1⟩, Below.refl _ _⟩ | exact ⟨hS.1, hS.2.1, Below.refl _ _⟩)
    · (with_reducible refine Fix.of ?_ ?_; rfl; intro w' hS; have s0 := hS.1; have s1 := hS.2.1; have s2 := hS.2.2; unfold Oper.wp; go_simp; first | exact ⟨⟨hS.1, hS.2.1⟩, Below.refl _ _⟩ | exact ⟨hS.1, hS.2.1, Below.refl _ _⟩)
    · (with_reducible refine Fix.of ?_ ?_; rfl; intro w' hS; have s0 := hS.1; have s1 := hS.2.1; have s2 := hS.2.2; unfold Oper.wp; go_simp; first | exact ⟨⟨hS.1, hS.2.1⟩, Below.refl _ _⟩ | exact ⟨hS.1, hS.2.1, Below.refl _ _⟩)
    · (with_reducible refine Fix.of ?_ ?_; rfl; intro w' hS; have s0 := hS.1; have s1 := hS.2.1; have s2 := hS.2.2; unfold Oper.wp; go_simp; first | exact ⟨⟨hS.1, hS.2.1⟩, Below.refl _ _⟩ | exact ⟨hS.1, hS.2.1, Below.refl _ _⟩)
    · (with_reducible refine Fix.of ?_ ?_; rfl; intro w' hS; have s3 := Lib.hid hS; unfold Oper.wp; clear hS; go_simp; refine (compareI_any f.p g.p _).mono ?_; rintro e w1 ⟨rfl, rfl⟩; exact ⟨rfl, s3.out, Below.refl _ _⟩)
    · (with_reducible refine Fix.of ?_ ?_; rfl; intro w' hS; have s0 := hS.1; have s1 := hS.2.1; have s2 := hS.2.2; unfold Oper.wp; go_simp; first | exact ⟨⟨hS.1, hS.2.1⟩, Below.refl _ _⟩ | exact ⟨hS.1, hS.2.1, Below.refl _ _⟩)
    · (with_reducible refine Fix.of ?_ ?_; rfl; intro w' hS; have s0 := hS.1; have s1 := hS.2.1; have s2 := hS.2.2; unfold Oper.wp; go_simp; first | exact ⟨⟨hS.1, hS.2.1⟩, Below.refl _ _⟩ | exact ⟨hS.1, hS.2.1, Below.refl _ _⟩)
    · (with_reducible refine Fix.of ?_ ?_; rfl; intro w' hS; have s0 := hS.1; have s1 := hS.2.1; have s2 := hS.2.2; unfold Oper.wp; go_simp; first | exact ⟨⟨hS.1, hS.2.1⟩, Below.refl _ _⟩ | exact ⟨hS.1, hS.2.1, Below.refl _ _⟩)
    · (with_reducible refine Fix.of ?_ ?_; rfl; intro w' hS; have s0 := hS.1; have s1 := hS.2.1; have s2 := hS.2.2; unfold Oper.wp; go_simp; first | exact ⟨⟨hS.1, hS.2.1⟩, Below.refl _ _⟩ | exact ⟨hS.1, hS.2.1, Below.refl _ _⟩)
    · (with_reducible refine Fix.of ?_ ?_; rfl; intro w' hS; have s3 := Lib.hid hS; unfold Oper.wp; clear hS; go_simp; refine (compareL_w f g _ _ _ s3.out.1 s3.out.2.1).mono ?_; rintro e w1 ⟨rfl, rfl⟩; exact ⟨rfl, s3.out, Below.refl _ _⟩)
    · (with_reducible refine Fix.of ?_ ?_; rfl; intro w' hS; have s0 := hS.1; have s1 := hS.2.1; have s2 := hS.2.2; unfold Oper.wp; go_simp; first | exact ⟨⟨hS.1, hS.2.1⟩, Below.refl _ _⟩ | exact ⟨hS.1, hS.2.1, Below.refl _ _⟩)
  case hal =>
    intro q
    refine ⟨rfl, fun w' hS => ?_⟩
    have s3 := Lib.hid hS
    clear hS
    unfold Oper.wp
    go_simp
    exact ⟨s3.out.1.alloc _, s3.out.2.1.alloc _, s3.out.2.2.1.alloc s3.out.2.2.1.size _, s3.out.2.2.2⟩
  case hst =>
    intro q
    refine ⟨rfl, fun w' hS hq hB => ?_⟩
    have s3 := Lib.hid hS
    clear hS
    unfold Oper.wp
    go_simp
    refine (or2_any q 2 _ _ _ (hB.cell 0) (hB.cell 1)).mono ?_
    rintro e w1 ⟨rfl, rfl⟩
    exact ⟨rfl, s3.out, hB, Below.refl _ _⟩
  case hQ =>
    intro q w' hS hq hB hbel
    have Hbel := Lib.hid hS.2.2
    clear hq hB hS hbel
    go_wp2
    go_ret
    exact ⟨rfl, Hbel.out⟩

theorem Blk.setCells {g : Nat} {t : TypeId} : ∀ (L : List Value) (o : Nat) (w : World) (cs : Array Value), Blk w g t cs → o + L.length ≤ cs.size →
    ∃ cs', Blk (w.setCells g o L) g t cs' ∧ cs'.size = cs.size ∧ (∀ j, j < o → cs'[j]? = cs[j]?) ∧ ∀ j, j < L.length → cs'[o + j]? = L[j]?
  | [], o, w, cs, h, _ => ⟨cs, h, rfl, fun _ _ => rfl, fun j hj => by simp at hj⟩
  | v :: r, o, w, cs, h, hl => by
    simp only [List.length_cons] at hl
    obtain ⟨cs', h1, h2, h3, h4⟩ := Blk.setCells r (o + 1) _ _ (h.set_ o v) (by simp; omega)
    refine ⟨cs', h1, by simpa using h2, fun j hj => ?_, fun j hj => ?_⟩
    · rw [h3 j (by omega), Array.getElem?_setIfInBounds_ne (by omega)]
    · match j, hj with
      | 0, _ =>
        rw [Nat.add_zero, h3 o (by omega)]
        have : o < cs.size := by omega
        simp [this]
      | j + 1, hj =>
        simp only [List.length_cons] at hj
        have := h4 j (by omega)
        rw [show o + (j + 1) = o + 1 + j by omega, this]
        rfl
theorem heap_setCells_ne {g k : Nat} (hk : k ≠ g) : ∀ (L : List Value) (o : Nat) (w : World), (w.setCells g o L).heap[k]? = w.heap[k]?
  | [], _, _ => rfl
  | v :: r, o, w => (heap_setCells_ne hk r (o + 1) _).trans (Below.heap_setCell w ⟨g, o, none⟩ v k hk)
theorem setCells_same (g : Nat) : ∀ (L : List Value) (o : Nat) (w : World), (w.setCells g o L).os = w.os ∧ (w.setCells g o L).tape = w.tape ∧ (w.setCells g o L).output = w.output ∧ (w.setCells g o L).heap.size = w.heap.size
  | [], _, _ => ⟨rfl, rfl, rfl, rfl⟩
  | v :: r, o, w => by
    obtain ⟨a, b, c, d⟩ := setCells_same g r (o + 1) (w.setCell ⟨g, o, none⟩ v)
    exact ⟨a, b, c, d.trans (by simp [World.setCell])⟩

theorem sort_any (g n c B : Nat) (ms : List M) (w : World) (ho : OwM 31 w B (.slice (some ⟨g, 0, none⟩) n c) ms) (hn : ms.length = n) (hnd : ms.Nodup) (hb : n < 1073741824) :
    Calls Tryz.prog 222 #[.slice (some ⟨g, 0, none⟩) n c, .func (.func 198) #[] #[]] w fun e w' => e = .returned (.tuple #[]) ∧ OwM 31 w' B (.slice (some ⟨g, 0, none⟩) n c) (sortM ms) ∧ w.grownBy w' (some g) := by
  subst hn
  have eg : ∀ args w, (callFunc 198 args).run Tryz.prog w = .ok (.enter 198 args) w := enters_of Tryz.func198 (by kernel_rfl) rfl
  obtain ⟨cur, hBg, hblk, hcap, hcm, hcs, htk⟩ : ∃ cur, B ≤ g ∧ Blk w g 31 cur ∧ ms.length ≤ c ∧ c ≤ maxLen ∧ cur.size = c * 6 ∧ cur.toList.take (ms.length * 6) = mcs ms := by
    rcases ho.2 with ⟨he, _⟩ | ⟨g', cap, cur, he, hg, hh, h1, h2, h3, h4⟩
    · cases he
    · injection he with e1 _ e3
      injection e1 with e1
      injection e1 with e1 _
      subst e1 e3
      exact ⟨cur, hg, hh, h1, h2, h3, h4⟩
  have hfl : ∀ L : List M, (Sort.flatK encM 6 L.toArray).toList = mcs L := by
    intro L
    refine List.ext_getElem? fun j => ?_
    by_cases hj : j < L.length * 6
    · have h6 : j % 6 < 6 := Nat.mod_lt _ (by decide)
      have hk : j / 6 < L.length := by omega
      have e : j = j / 6 * 6 + j % 6 := by omega
      have h1 := mcs_get (ms := L) (k := j / 6) (j := j % 6) hk h6
      rw [← e] at h1
      rw [h1]
      have h2 : (Sort.flatK encM 6 L.toArray).toList[j]? = some ((encM (gm L (j / 6)))[j % 6]!) := by
        have hsz : j < (Sort.flatK encM 6 L.toArray).size := by simpa using hj
        rw [Array.getElem?_toList, Array.getElem?_eq_getElem hsz, ← getElem!_pos (Sort.flatK encM 6 L.toArray) j hsz, Sort.get_flatK _ _ _ _ (by simpa using hj)]
        rw [gm_eq hk]
        simp [hk]
      rw [h2]
      have h7 : j % 6 < (encM (gm L (j / 6))).length := h6
      rw [List.getElem!_eq_getElem?_getD, List.getElem?_eq_getElem h7]
      rfl
    · rw [List.getElem?_eq_none (by simp; omega), List.getElem?_eq_none (by rw [mcs_length]; omega)]
  have hcells : ∀ j, j < (mcs ms).length → cur[j]? = (mcs ms)[j]? := by
    intro j hj
    rw [mcs_length] at hj
    rw [← htk, List.getElem?_take, if_pos hj]
    simp
  have hH : Sort.HoldsK encM 6 w g 0 ms.toArray := by
    intro j hj
    have hj' : j < (mcs ms).length := by rw [mcs_length]; simpa using hj
    refine ⟨?_, hblk.frozen _⟩
    rw [Nat.zero_add, hblk.cell, hcells j hj', ← hfl ms]
    have hsz : j < (Sort.flatK encM 6 ms.toArray).size := hj
    rw [Array.getElem?_toList, Array.getElem?_eq_getElem hsz, ← getElem!_pos (Sort.flatK encM 6 ms.toArray) j hsz]
    rfl
  have hS := AnyQ.slices_SortFunc_total Tryz.sortL 6 (fun w => by exact Tryz.isAgg31 w) (fun w => by exact Tryz.sizeOf31 w) encM (fun _ => rfl) (fun x v hv => by
      simp at hv; rcases hv with rfl | rfl | rfl | rfl | rfl | rfl <;> rfl) cmpM swoM 198 #[] g 0 c ms.toArray w eg
    (fun m os dk _ x y => (compareM_grow x y _).mono fun e w' h => ⟨h.1, grows_of h.2.1 h.2.2⟩) hH hblk.lt (by simp; omega) totM
  rw [merge_sortM hnd] at hS
  refine hS.mono ?_
  rintro e w' ⟨rfl, q, os, rfl⟩
  have hlen : (sortM ms).length = ms.length := sortM_length hnd
  have hput : sortWorldK encM 6 w g 0 q (sortM ms).toArray os = Sort.grow ((w.drewN q).setCells g 0 (mcs (sortM ms))) os := by
    unfold sortWorldK Sort.putRowK
    have h1 : Sort.flatK encM 6 (sortM ms).toArray = (mcs (sortM ms)).toArray := by rw [← hfl]
    rw [h1, Lib.putRow_eq_setCells id w g 0 (Sort.flatK encM 6 ms.toArray) (mcs (sortM ms)) q hH (by simp [mcs_length, hlen])]
    simp
  rw [hput]
  obtain ⟨cs', hb', hs', _, hd'⟩ := Blk.setCells (mcs (sortM ms)) 0 (w.drewN q) cur (hblk.drewN q) (by rw [mcs_length, hlen, hcs]; omega)
  obtain ⟨a1, a2, a3, a4⟩ := setCells_same g (mcs (sortM ms)) 0 (w.drewN q)
  have hgr : ∀ (w1 : World) k, k < w1.heap.size → (Sort.grow w1 os).heap[k]? = w1.heap[k]? := fun w1 k hk => by
    show (w1.heap ++ os)[k]? = _
    exact Array.getElem?_append_left hk
  refine ⟨rfl, ⟨mcs_length _, .inr ⟨g, c, cs', by rw [hlen], hBg, ?_, by rw [hlen]; exact hcap, hcm, by rw [hs', hcs], ?_⟩⟩, ?_⟩
  · exact (hgr _ g hb'.lt).trans hb'
  · refine List.ext_getElem? fun j => ?_
    rw [List.getElem?_take]
    by_cases hj : j < (sortM ms).length * 6
    · rw [if_pos hj]
      have := hd' j (by rw [mcs_length]; exact hj)
      rw [Nat.zero_add] at this
      simpa using this
    · rw [if_neg hj, List.getElem?_eq_none (by rw [mcs_length]; omega)]
  · refine ⟨a1, a2, a3, ?_, fun k hk hne => ?_⟩
    · show w.heap.size ≤ (((w.drewN q).setCells g 0 (mcs (sortM ms))).heap ++ os).size
      rw [Array.size_append, a4]
      exact Nat.le_add_right _ _
    · rw [hgr _ k (by rw [a4]; exact hk)]
      exact heap_setCells_ne (fun e => hne (by rw [e])) _ _ _
end Go.Proofs.YtkbfocoaobiijaaGreat

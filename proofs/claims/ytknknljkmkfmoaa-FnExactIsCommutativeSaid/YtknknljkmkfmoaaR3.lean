/- A region that draws its order, whose values are known, where some slots are read before they are written; no conditions beyond those that each theorem states. -/
import Derived.Test.YtknknljkmkfmoaaR2
namespace Go.Proofs.Ytknknljkmkfmoaa
open Go.RowKit
set_option maxRecDepth 100000

section
variable {P : Program} {ops : Array Oper}
theorem wp_region_fixY {γ : Type} {id : Nat} {a : Act} {w : World} {Q : Exit → Act → World → Prop} (hm : P.follows .mixedOrders = true) (hns : Region.noSelect ops = true) (Lw : List Nat) (hlook : looksOkX ops Lw = true)
    (F X : γ → Array Value) (hX : ∀ c t, (X c).getD t undef = if t ∈ Lw then a.tmps.getD t undef else (F c).getD t undef) (hXs : ∀ c, (X c).size = a.tmps.size) (S : Array Bool → γ → World → Prop) (c0 : γ) (hS : S (Array.replicate ops.size false) c0 w.drew)
    (hsize : ∀ c, (F c).size = a.tmps.size)
    (hsame : ∀ t, ¬ Pending ops (Array.replicate ops.size false) t → a.tmps.getD t undef = (F c0).getD t undef)
    (hop : ∀ (i : Nat) (o : Oper), ops[i]? = some o → ∀ listed c w', listed.size = ops.size → i ∈ Region.ready .any ops listed → S listed c w' →
      if Region.wanted o (yielded ops (X c)) = true then
        o.wp P ⟨X c, a.defers⟩ w' (fun a' w'' => ∃ c', (a'.defers = a.defers ∧ ∀ t, o.dst = some t → a'.tmps.getD t undef = (F c').getD t undef) ∧ S (listed.setIfInBounds i true) c' w'' ∧ ∀ t, ¬ Pending ops (listed.setIfInBounds i true) t → o.dst ≠ some t → (F c').getD t undef = (F c).getD t undef) (fun _ _ _ => False)
      else ∃ c', (∀ t, o.dst = some t → ((⟨X c, a.defers⟩ : Act).put o.dst undef).tmps.getD t undef = (F c').getD t undef) ∧ S (listed.setIfInBounds i true) c' w' ∧ ∀ t, ¬ Pending ops (listed.setIfInBounds i true) t → o.dst ≠ some t → (F c').getD t undef = (F c).getD t undef)
    (hQ : ∀ listed c w', (∀ i, i < ops.size → listed.getD i false = true) → S listed c w' → Q .normal ⟨F c, a.defers⟩ w') : (Code.region id ops true).wp P Q a w := by
  refine wp_region_any hm ?_
  have main : ∀ (fuel : Nat) (listed : Array Bool) (b : Act) (w' : World) (c : γ), listed.size = ops.size → ((List.range ops.size).filter fun i => !listed.getD i false).length = fuel →
      b.defers = a.defers → b.tmps.size = a.tmps.size → (∀ t, ¬ Pending ops listed t → b.tmps.getD t undef = (F c).getD t undef) →
      (∀ t, (∀ (j : Nat) (p : Oper), ops[j]? = some p → p.dst = some t → listed.getD j false = false) → b.tmps.getD t undef = a.tmps.getD t undef) →
      (∀ (k : Nat) (p : Oper), ops[k]? = some p → listed.getD k false = true → ∀ e ∈ p.after, Region.binds .any e = true → listed.getD e.on false = true) → S listed c w' → wpAny P .any ops Q fuel listed b w' := by
    intro fuel
    induction fuel with
    | zero =>
      intro listed b w' c hls hcount hbd hbs hagree huntouched hcl hSw
      have hall : ∀ i, i < ops.size → listed.getD i false = true := by
        intro i hi
        have hnil := List.length_eq_zero_iff.1 hcount
        rw [List.filter_eq_nil_iff] at hnil
        have := hnil i (List.mem_range.2 hi)
        simpa using this
      refine ⟨?_, ?_⟩
      · rw [List.eq_nil_iff_forall_not_mem]
        intro i hi
        obtain ⟨h0, o, ho, _⟩ := mem_ready.1 hi
        have hlt : i < ops.size := (Array.getElem?_eq_some_iff.1 ho).1
        have := hall i hlt
        have hi' : i < listed.size := by omega
        simp [hi'] at h0 this
        rw [h0] at this
        cases this
      · have hb : b = ⟨F c, a.defers⟩ := by
          obtain ⟨bt, bd⟩ := b
          simp only at hbd hbs hagree
          subst hbd
          congr 1
          refine Array.ext (by rw [hbs, hsize]) fun t h1 h2 => ?_
          have := hagree t (by rintro ⟨j, o, ho, _, hl⟩; have := hall j (Array.getElem?_eq_some_iff.1 ho).1; rw [hl] at this; cases this)
          simpa [Array.getD, h1, h2] using this
        rw [hb]
        exact hQ listed c w' hall hSw
    | succ fuel ih =>
      intro listed b w' c hls hcount hbd hbs hagree huntouched hcl hSw
      refine ⟨?_, ?_⟩
      · intro hnil
        exfalso
        -- the least operation that is not done may come up
        have hex : ∃ i, i < ops.size ∧ listed.getD i false = false := by
          have hne : ((List.range ops.size).filter fun i => !listed.getD i false) ≠ [] := by
            intro e; rw [e] at hcount; simp at hcount
          obtain ⟨i, hi⟩ := List.exists_mem_of_ne_nil _ hne
          rw [List.mem_filter, List.mem_range] at hi
          exact ⟨i, hi.1, by simpa using hi.2⟩
        obtain ⟨i, ⟨hi, hil⟩, hmin⟩ := exists_least hex
        have ho : ops[i]? = some ops[i] := Array.getElem?_eq_getElem hi
        have hmem : i ∈ Region.ready .any ops listed := by
          refine mem_ready.2 ⟨?_, ops[i], ho, fun e he hbe => ?_⟩
          · have hi' : i < listed.size := by omega
            simp [hi'] at hil ⊢; exact hil
          · have hlt := (looksOkX_spec hlook ho).1 e he hbe
            cases hc : listed.getD e.on false with
            | true => rfl
            | false => exact absurd (hmin e.on ⟨by omega, hc⟩) (by omega)
        rw [hnil] at hmem
        cases hmem
      · intro i hi
        obtain ⟨h0, o, ho, hdeps⟩ := mem_ready.1 hi
        have hlt : i < ops.size := (Array.getElem?_eq_some_iff.1 ho).1
        have hil : i < listed.size := by omega
        have hi0 : listed.getD i false = false := by simp [hil] at h0 ⊢; exact h0
        have hlooks : ∀ d ∈ o.looksAt ops, b.tmps.getD d undef = (X c).getD d undef := by
          intro d hd
          rw [hX]
          have hl := (looksOkX_spec hlook ho).2
          by_cases hdL : d ∈ Lw
          · rw [if_pos hdL]
            refine huntouched d fun j p hp hpd => ?_
            rcases hl j p d hp hpd hd with ⟨h, _⟩ | ⟨_, e, he, hb, hej⟩
            · exact absurd hdL h
            · cases hc : listed.getD j false with
              | false => rfl
              | true =>
                have := hcl j p hp hc e he hb
                rw [hej, hi0] at this
                cases this
          · rw [if_neg hdL]
            refine hagree d ?_
            rintro ⟨j, p, hp, hpd, hjl⟩
            rcases hl j p d hp hpd hd with ⟨_, e, he, hb, hej⟩ | ⟨h, _⟩
            · have := hdeps e he hb
              rw [hej, hjl] at this
              cases this
            · exact hdL h
        have hcount' : ((List.range ops.size).filter fun j => !(listed.setIfInBounds i true).getD j false).length = fuel := by
          have key : ∀ l : List Nat, l.Nodup → i ∈ l → (l.filter fun j => !(listed.setIfInBounds i true).getD j false).length + 1 = (l.filter fun j => !listed.getD j false).length := by
            intro l
            induction l with
            | nil => intro _ h; cases h
            | cons x xs ihl =>
              intro hnd hmem
              rw [List.nodup_cons] at hnd
              by_cases hx : x = i
              · subst hx
                have e1 : (listed.setIfInBounds x true).getD x false = true := by simp [hil]
                have e2 : (xs.filter fun j => !(listed.setIfInBounds x true).getD j false) = xs.filter fun j => !listed.getD j false := by
                  refine List.filter_congr fun j hj => ?_
                  rw [getD_set_ne false (fun e => hnd.1 (by rw [e]; exact hj))]
                rw [List.filter_cons, List.filter_cons, e1, hi0, e2]
                simp
              · have e1 : (listed.setIfInBounds i true).getD x false = listed.getD x false := getD_set_ne false (Ne.symm hx)
                have hmem' : i ∈ xs := by cases hmem with | head => exact absurd rfl hx | tail _ h => exact h
                have := ihl hnd.2 hmem'
                rw [List.filter_cons, List.filter_cons, e1]
                cases listed.getD x false <;> simp <;> simpa using this
          have := key (List.range ops.size) List.nodup_range (List.mem_range.2 hlt)
          omega
        -- the frame at hand and F agree on what the operation looks at
        have heval : ∀ x ∈ o.op.operands, b.eval x = (⟨X c, a.defers⟩ : Act).eval x := by
          intro x hx
          cases x with
          | tmp t =>
            refine hlooks t ?_
            exact List.mem_append_left _ (List.mem_filterMap.2 ⟨.tmp t, by simpa using hx, rfl⟩)
          | const v => rfl
          | global g => rfl
          | func f => rfl
        have hexec : execOp b.eval o = execOp (⟨X c, a.defers⟩ : Act).eval o := execOp_congr o (fun cs bb => Region.noSelect_spec hns i o cs bb ho) heval
        have hwant : Region.wanted o (yielded ops b.tmps) = Region.wanted o (yielded ops (X c)) := by
          unfold Region.wanted
          cases hg : o.guard with
          | none => rfl
          | some gw =>
            obtain ⟨g, want⟩ := gw
            have hy : yielded ops b.tmps g = yielded ops (X c) g := by
              unfold yielded
              cases ht : (ops[g]?).bind (·.dst) with
              | none => rfl
              | some t =>
                have hb := hlooks t (by simp [Oper.looksAt, hg, ht])
                have hsz : b.tmps.size = (X c).size := by rw [hbs, hXs]
                have : b.tmps[t]? = (X c)[t]? := by
                  by_cases h : t < b.tmps.size
                  · have h' : t < (X c).size := Nat.lt_of_lt_of_eq h hsz
                    simp [Array.getD, h, h'] at hb
                    simp [h, h', hb]
                  · rw [Array.getElem?_eq_none (Nat.le_of_not_lt h), Array.getElem?_eq_none (hsz ▸ Nat.le_of_not_lt h)]
                simp only [Option.bind_some, this]
            simp only [hy]
        -- behind the operation
        have hnext : ∀ (v : Value) (w'' : World) (c' : γ), (∀ t, o.dst = some t → ((⟨X c, a.defers⟩ : Act).put o.dst v).tmps.getD t undef = (F c').getD t undef) → (∀ t, ¬ Pending ops (listed.setIfInBounds i true) t → o.dst ≠ some t → (F c').getD t undef = (F c).getD t undef) → S (listed.setIfInBounds i true) c' w'' →
            wpAny P .any ops Q fuel (listed.setIfInBounds i true) (b.put o.dst v) w'' := by
          intro v w'' c' hput hoff hS'
          refine ih _ _ _ c' (by simpa using hls) hcount' ?_ ?_ ?_ ?_ ?_ hS'
          · cases o.dst <;> exact hbd
          · cases o.dst <;> simpa [Act.put] using hbs
          · intro t hp
            by_cases ht : o.dst = some t
            · have h1 : (b.put o.dst v).tmps.getD t undef = ((⟨X c, a.defers⟩ : Act).put o.dst v).tmps.getD t undef := by
                rw [ht]
                have hsz : b.tmps.size = (X c).size := by rw [hbs, hXs]
                simp only [Act.put, Array.getD_eq_getD_getElem?]
                by_cases h : t < b.tmps.size
                · simp [h, show t < (X c).size by omega]
                · rw [Array.getElem?_eq_none (by simp; omega), Array.getElem?_eq_none (by simp; omega)]
              rw [h1, hput t ht]
            · have h1 : (b.put o.dst v).tmps.getD t undef = b.tmps.getD t undef := by
                cases hdst : o.dst with
                | none => rfl
                | some d =>
                  have hne : d ≠ t := fun e => ht (by rw [hdst, e])
                  simp [Act.put, Array.getElem?_setIfInBounds_ne hne]
              rw [h1, hoff t hp ht]
              refine hagree t ?_
              rintro ⟨j, p, hp', hpd, hjl⟩
              refine hp ⟨j, p, hp', hpd, ?_⟩
              have hji : i ≠ j := by
                intro e; subst e
                rw [ho] at hp'; injection hp' with hp'; subst hp'; exact ht hpd
              rw [getD_set_ne false hji]; exact hjl
          · intro t hall
            have hne : o.dst ≠ some t := by
              intro e
              have := hall i o ho e
              simp [hil] at this
            have h1 : (b.put o.dst v).tmps.getD t undef = b.tmps.getD t undef := by
              cases hdst : o.dst with
              | none => rfl
              | some d =>
                have hne : d ≠ t := fun e => hne (by rw [hdst, e])
                simp [Act.put, Array.getElem?_setIfInBounds_ne hne]
            rw [h1]
            refine huntouched t fun j p hp hpd => ?_
            have := hall j p hp hpd
            have hji : i ≠ j := by
              intro e; subst e
              rw [ho] at hp; injection hp with hp; subst hp; exact hne hpd
            rwa [getD_set_ne false hji] at this
          · intro k p hp hk e he hb
            have base : listed.getD e.on false = true := by
              by_cases ek : i = k
              · subst ek
                rw [ho] at hp; injection hp with hp; subst hp
                exact hdeps e he hb
              · rw [getD_set_ne false ek] at hk
                exact hcl k p hp hk e he hb
            by_cases ee : i = e.on
            · rw [← ee] at base; rw [hi0] at base; cases base
            · rw [getD_set_ne false ee]; exact base
        have hstep := hop i o ho listed c w' hls hi hSw
        unfold wpOp
        simp only [ho]
        rw [hwant]
        split
        · rename_i hw
          rw [if_pos hw] at hstep
          refine .inl ?_
          unfold Oper.wp at hstep ⊢
          rw [hexec]
          refine upon_of hstep ?_ ?_
          · rintro v w'' ⟨c', he, hS', hoff⟩
            exact hnext v w'' c' he.2 hoff hS'
          · rintro b' hb' w'' ⟨c', he, _⟩
            exact hb' he.1
        · rename_i hw
          rw [if_neg hw] at hstep
          obtain ⟨c', h1, h2, h3⟩ := hstep
          exact hnext undef w' c' h1 h3 h2
  refine main ops.size (Array.replicate ops.size false) a w.drew c0 (by simp) ?_ rfl rfl hsame (fun _ _ => rfl) (fun k p hp hk => by
    have hk' : k < ops.size := (Array.getElem?_eq_some_iff.1 hp).1
    simp [hk'] at hk) hS
  rw [List.filter_eq_self.2]
  · simp
  · intro i hi
    simp at hi
    simp [hi]


/-- what one operation does at the frame X, its value being that of the last frame F -/
def FixX (P : Program) (ops : Array Oper) (F X : Array Value) (D : List Deferred) (S : World → Prop) (o : Oper) : Prop :=
  if Region.wanted o (yielded ops X) = true then ∀ w, S w → o.wp P ⟨X, D⟩ w (fun a' w' => (a'.defers = D ∧ ∀ t, o.dst = some t → a'.tmps.getD t undef = F.getD t undef) ∧ Below w.heap.size w w') (fun _ _ _ => False)
  else ∀ t, o.dst = some t → ((⟨X, D⟩ : Act).put o.dst undef).tmps.getD t undef = F.getD t undef
theorem FixX.of {F X : Array Value} {D : List Deferred} {S : World → Prop} {o : Oper} (hg : Region.wanted o (yielded ops X) = true)
    (h : ∀ w, S w → o.wp P ⟨X, D⟩ w (fun a' w' => (a'.defers = D ∧ ∀ t, o.dst = some t → a'.tmps.getD t undef = F.getD t undef) ∧ Below w.heap.size w w') (fun _ _ _ => False)) : FixX P ops F X D S o := by
  unfold FixX
  rw [if_pos hg]
  exact h
theorem FixX.off {F X : Array Value} {D : List Deferred} {S : World → Prop} {o : Oper} (hg : Region.wanted o (yielded ops X) = false)
    (h : ∀ t, o.dst = some t → ((⟨X, D⟩ : Act).put o.dst undef).tmps.getD t undef = F.getD t undef) : FixX P ops F X D S o := by
  unfold FixX
  rw [if_neg (by rw [hg]; simp)]
  exact h
@[reducible] def FixXL (P : Program) (ops : Array Oper) (F X : Array Value) (D : List Deferred) (S : World → Prop) : List Oper → Prop
  | [] => True
  | o :: os => FixX P ops F X D S o ∧ FixXL P ops F X D S os
theorem FixXL.get {F X : Array Value} {D : List Deferred} {S : World → Prop} : ∀ (l : List Oper), FixXL P ops F X D S l → ∀ (i : Nat) (o : Oper), l[i]? = some o → FixX P ops F X D S o
  | [], _, i, o, h => by simp at h
  | p :: l, hl, 0, o, h => by simp at h; subst h; exact hl.1
  | p :: l, hl, i + 1, o, h => FixXL.get l hl.2 i o (by simpa using h)

theorem wp_region_sameX {id : Nat} {a : Act} {w : World} {Q : Exit → Act → World → Prop} (D : List Deferred) (hD : a.defers = D) (hm : P.follows .mixedOrders = true) (hns : Region.noSelect ops = true) (Lw : List Nat) (hlook : looksOkX ops Lw = true)
    (S : World → Prop) (F : Array Value) (vs : List Value) (hF : putAll ops.toList vs a.tmps = F) (LX : List (Nat × Value)) (hLX : LX = Lw.map fun t => (t, a.tmps.getD t undef)) (X : Array Value) (hX0 : setAll F LX = X) (hLw : Lw.all (fun t => decide (t < a.tmps.size)) = true)
    (hst : ∀ w' w'', S w' → Below w'.heap.size w' w'' → S w'') (hS : S w.drew)
    (hop : FixXL P ops F X D S ops.toList)
    (hQ : ∀ w', S w' → Q .normal ⟨F, D⟩ w') : (Code.region id ops true).wp P Q a w := by
  subst hD
  have hFs : F.size = a.tmps.size := by rw [← hF, size_putAll]
  have hX : X = setAll F (Lw.map fun t => (t, a.tmps.getD t undef)) := by rw [← hX0, hLX]
  refine wp_region_fixY hm hns Lw hlook (γ := Unit) (fun _ => F) (fun _ => X) (fun _ t => by rw [hX]; exact setAll_reset a.tmps Lw F t (fun t ht => by have := List.all_eq_true.1 hLw t ht; rw [hFs]; simpa using this)) (fun _ => by rw [hX, setAll_size]; exact hFs) (fun _ _ w' => S w') () hS (fun _ => hFs) ?_ ?_ ?_
  · intro t ht
    rw [← hF, putAll_same _ _ _ _ (not_pending ht)]
  · intro i o ho listed _ w' _ _ hS'
    have h := FixXL.get ops.toList hop i o (by simpa using ho)
    unfold FixX at h
    split
    · rename_i hw
      rw [if_pos hw] at h
      have h' := h w' hS'
      unfold Oper.wp at h' ⊢
      refine upon_of h' ?_ ?_
      · rintro v w'' ⟨e1, e2⟩
        exact ⟨(), e1, hst _ _ hS' e2, fun _ _ _ => rfl⟩
      · rintro b' hb' w'' ⟨e1, _⟩
        exact hb' e1.1
    · rename_i hw
      rw [if_neg hw] at h
      exact ⟨(), h, hS', fun _ _ _ => rfl⟩
  · intro _ _ w' _ hS'
    exact hQ w' hS'
end
end Go.Proofs.Ytknknljkmkfmoaa

/- Contracts of the function that makes a map of a list, and of those that read a text; no conditions beyond those that each theorem states. -/
import Derived.Test.YtkbfocoaobiijaaC6
import Derived.Laws.CopyOwn
import Derived.Laws.Strings
namespace Go.Proofs.Ytkbfocoaobiijaa
open Go.RowKit
set_option maxRecDepth 100000

theorem slc0 (g : Nat) (w : World) : (Instr.sliceAt 24 (.pointer (some ⟨g, 1, none⟩)) none none none).run Try.prog w = .ok (.slice (some ⟨g, 1, none⟩) 5 5) w := by kernel_rfl

theorem splice_made {zs : List Int} (h5 : zs.length ≤ 5) : (splice (mc ⟨zs.length, 0, 0, 0, 0, 0⟩).toList 1 (cI zs)).toArray = mc (made zs) := by
  match zs, h5 with
  | [], _ => rfl
  | [_], _ => rfl
  | [_, _], _ => rfl
  | [_, _, _], _ => rfl
  | [_, _, _, _], _ => rfl
  | [_, _, _, _, _], _ => rfl

theorem wpList_copyBox {w : World} {ops : Array Oper} {rest : List Oper} {o : Oper} {a : Act} {Q : Exit → Act → World → Prop} (hgd : o.guard = none) (d s : Operand)
    (ho : o.op = .call { callee := .builtin .copy, args := #[d, s], argTypes := #[34, 34] }) (g n c : Nat) (A : Option Addr) (zs : List Int) (hd : a.eval d = .slice (some ⟨g, 1, none⟩) 5 5) (hs : a.eval s = .slice A n c)
    (hB : Blk w g 26 (mc ⟨n, 0, 0, 0, 0, 0⟩)) (B : Nat) (hx : RdI w B A zs) (hn : Hid (zs.length = n)) (h5 : n ≤ 5)
    (h : ∀ w', Blk w' g 26 (mc (made zs)) → Below g w w' → wpList Try.prog ops Q rest (a.put o.dst (I n)) w') : wpList Try.prog ops Q (o :: rest) a w := by
  have hl : (cI zs).length = n := by rw [cI_length]; exact hn.out
  refine wpList_copy_splice hgd d s 34 34 ho 2 Try.underlying34 (by kernel_rfl) (some ⟨g, 1, none⟩) A 5 5 n c hd hs g 1 (mc ⟨n, 0, 0, 0, 0, 0⟩).toList 26 hB (cI zs) (by rw [hl]; exact (Nat.min_eq_left h5).symm) ?_ (by rw [hl]; show 1 + n ≤ 6; omega) ?_ g w (Below.refl _ _) (Nat.le_refl _) ?_
  · intro hp
    rw [hl] at hp
    obtain ⟨b, off, e, _, hc⟩ := hx.2 (by rw [hn.out]; exact hp)
    exact ⟨rfl, ⟨b, off, none⟩, e, fun j v hv => by
      have := hc j v hv
      unfold Addr.add
      split
      · rename_i h0; subst h0; simpa using this
      · exact this⟩
  · intro v hv
    obtain ⟨z, _, rfl⟩ := List.mem_map.1 hv
    rfl
  · intro w' hg hb
    rw [hl]
    have e : (mc ⟨(n : Int), 0, 0, 0, 0, 0⟩) = mc ⟨zs.length, 0, 0, 0, 0, 0⟩ := by rw [hn.out]
    have hg' := hg.out
    rw [e, splice_made (by rw [hn.out]; exact h5)] at hg'
    exact h w' hg' hb

/-! ### texts -/
/-- a text's byte as a number -/
def byt (s : ByteArray) (k : Nat) : Int := if h : k < s.size then (s[k].toNat : Int) else 0
theorem byt_lo (s : ByteArray) (k : Nat) : 0 ≤ byt s k := by unfold byt; split <;> omega
theorem byt_hi (s : ByteArray) (k : Nat) : byt s k < 256 := by
  unfold byt; split
  · have := s[k].toNat_lt; omega
  · omega
theorem byt_run (s : ByteArray) {k : Nat} (h : k < s.size) : ∀ w, (Instr.index 9 (.string s) (.int .i64 k)).run Try.prog w = .ok (.int .u8 (byt s k)) w := by
  intro w
  rw [run_index_string w 9 s .i64 k Try.underlying9, dif_pos ⟨by omega, by omega⟩]
  simp [byt, h]
/-- the digits of a text's first bytes -/
def digs (s : ByteArray) (k : Nat) : List Int := (List.range k).map fun j => byt s j - 48
theorem digs_length (s : ByteArray) (k : Nat) : (digs s k).length = k := by simp [digs]
theorem digs_succ (s : ByteArray) (k : Nat) : digs s (k + 1) = digs s k ++ [byt s k - 48] := by simp [digs, List.range_succ]
theorem gi_digs (s : ByteArray) {k n : Nat} (h : k < n) : gi (digs s n) k = byt s k - 48 := by simp [gi, digs, List.getD, h]

def readR (s : ByteArray) : M := mapOfR (digs s s.size)
def readC (s : ByteArray) : Int := if mapOfOk (digs s s.size) then 0 else 6

end Go.Proofs.Ytkbfocoaobiijaa

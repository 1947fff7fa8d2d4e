/- charset.Valid, Repair, decoder, Utf8 of what is UTF-8; body.content -/
import Derived.Test.YtjbllanlfgbpkaaGreatDoorTidy
namespace Go.Proofs.YtjbllanlfgbpkaaGreatDoor
open Go.RowKit

theorem validString_any (s : ByteArray) (w : World) (hG : G w) (hs : s.size ≤ 1000000000) :
    Calls Tryz.prog 34 #[.string s] w fun e w' => e = .returned (.bool (Lib.validD s.data.toList)) ∧ Ext w w' :=
  Any.utf8_ValidString Tryz.lays196 s w (by omega) hG.utf8
theorem valid_any (s : ByteArray) (w : World) (hG : G w) (hs : s.size ≤ 1000000000) :
    Calls Tryz.prog 11 #[.string s] w fun e w' => e = .returned (.bool (Lib.validD s.data.toList)) ∧ Ext w w' := by
  go_enter Tryz.func11, Tryz.ntmps11
  go_wp2_with fail
  refine (validString_any _ _ hG hs).mono ?_
  rintro e w' ⟨rfl, hx⟩
  go_wp2_with fail
  go_ret
  exact ⟨rfl, hx⟩
theorem repair_valid (s : ByteArray) (w : World) (hG : G w) (hs : s.size ≤ 1000000000) (hv : Lib.validD s.data.toList = true) :
    Calls Tryz.prog 110 #[.string s] w fun e w' => e = .returned (.string s) ∧ Ext w w' := by
  have HV := Lib.hid hv
  clear hv
  go_enter Tryz.func110, Tryz.ntmps110
  go_wp2_with fail
  refine (valid_any _ _ hG hs).mono ?_
  rintro e w' ⟨rfl, hx⟩
  rw [HV.out]
  go_wp2_with fail
  go_ret
  exact ⟨rfl, hx⟩
def Sp.utf8S : Sp.Bs := [117, 116, 102, 45, 56]
theorem decoder_utf8 (s : ByteArray) (w : World) (hs : s.size ≤ 1000000000) (h : Sp.lowerL s.data.toList = Sp.utf8S) :
    Calls Tryz.prog 133 #[.string s] w fun e w' => e = .returned (.func (.func 110) #[] #[]) ∧ Ext w w' := by
  go_enter Tryz.func133, Tryz.ntmps133
  go_wp2_with fail
  refine (lowerB_any _ _ hs).mono ?_
  rintro e w' ⟨rfl, hx⟩
  rw [h]
  unfold Sp.utf8S
  go_wp2_with fail
  go_ret
  exact ⟨rfl, hx⟩
theorem equalIn_func_nil {P : Program} (d : Nat) (t : TypeId) (f : Fn) (r b : Array Value) (w : World) {a1 : _} {a2 : _} {a3 : _} (h : P.underlying t = some (.func a1 a2 a3)) : (Op.equalIn (d + 1) t (.func f r b) .nilFunc).run P w = .ok false w := by
  simp [Op.equalIn, run_underlying h]
theorem neq_func_nil {P : Program} (t : TypeId) (f : Fn) (r b : Array Value) (w : World) {a1 : _} {a2 : _} {a3 : _} (h : P.underlying t = some (.func a1 a2 a3)) : (binOp .neq t (.func f r b) .nilFunc).run P w = .ok (.bool true) w := by
  have := equalIn_func_nil 9999 t f r b w h
  have h2 : (Op.equal t (.func f r b) .nilFunc).run P w = .ok false w := this
  simp only [binOp]
  simp [h2]
theorem utf8_utf8 (c s : ByteArray) (w : World) (hG : G w) (hc : c.size ≤ 1000000000) (h : Sp.lowerL c.data.toList = Sp.utf8S) (hs : s.size ≤ 1000000000) (hv : Lib.validD s.data.toList = true) :
    Calls Tryz.prog 74 #[.string c, .string s] w fun e w' => e = .returned (.tuple #[.string s, .bool true]) ∧ Ext w w' := by
  go_enter Tryz.func74, Tryz.ntmps74
  go_wp2_with fail
  refine (decoder_utf8 _ _ hc h).mono ?_
  rintro e w1 ⟨rfl, hx⟩
  have hnn := neq_func_nil 31 (.func 110) #[] #[] w1 Tryz.underlying31
  go_wp2_with fail
  refine (repair_valid _ _ (hG.ext hx) hs hv).mono ?_
  rintro e w2 ⟨rfl, hx2⟩
  go_wp2_with fail
  go_ret2
  exact ⟨rfl, ext_trans hx hx2⟩

def Sp.charsetS : Sp.Bs := [99, 104, 97, 114, 115, 101, 116]
/-- the charset of a leaf -/
def Sp.setOf (l : List (Sp.Bs × Sp.Bs)) : Sp.Bs := if (Sp.param l Sp.charsetS).2 then (Sp.param l Sp.charsetS).1 else Sp.utf8S
set_option maxHeartbeats 1000000 in
theorem content_utf8 (p : List (Sp.Bs × Sp.Bs)) (vf vp vt vq : Value) (b : Sp.Bs) (w : World) (hG : G w) (hv : PairsAt w vp p) (hl : p.length ≤ 1000000000) (hs : (Sp.setOf p).length ≤ 1000000000) (h : Sp.lowerL (Sp.setOf p) = Sp.utf8S) (hb : b.length ≤ 1000000000) (hvb : Lib.validD b = true) :
    Calls Tryz.prog 32 #[.agg #[vf, vt, vp, str b, vq]] w fun e w' => e = .returned (str b) ∧ Ext w w' := by
  have hv1 := hv.ext (ext_alloc (Below.refl w.heap.size w) (.cells #[vf, vt, vp, str b, vq] 26))
  have hx1 : Ext w (w.alloc (.cells #[vf, vt, vp, str b, vq] 26)) := ext_alloc (Below.refl _ _) _
  have hc0 : (w.alloc (.cells #[vf, vt, vp, str b, vq] 26)).cell? ⟨w.heap.size, 3, none⟩ = some (str b) := by rw [Lib.cell_of_heap (heap_alloc_new _ _)]; rfl
  unfold Sp.setOf at h hs
  go_enter Tryz.func32, Tryz.ntmps32
  go_wp2_with fail
  refine (param_any _ p _ _ hv1 hl).mono ?_
  rintro e w4 ⟨rfl, hx⟩
  rw [show (ByteArray.mk #[99, 104, 97, 114, 115, 101, 116]).data.toList = Sp.charsetS from rfl]
  have hx2 := ext_trans hx1 hx
  have hc1 := cell_ext hx hc0
  generalize Sp.param p Sp.charsetS = r at *
  obtain ⟨set, ok⟩ := r
  cases ok with
  | true =>
    simp only [if_true] at h hs
    go_wp2_with fail
    refine (utf8_utf8 _ _ _ (hG.ext hx2) (by simp; omega) (by simpa using h) (by simp; omega) (by simpa using hvb)).mono ?_
    rintro e w5 ⟨rfl, hx5⟩
    go_wp2_with fail
    go_ret
    exact ⟨rfl, ext_trans hx2 hx5⟩
  | false =>
    go_wp2_with fail
    refine (utf8_utf8 _ _ _ (hG.ext hx2) (by decide) (by decide) (by simp; omega) (by simpa using hvb)).mono ?_
    rintro e w5 ⟨rfl, hx5⟩
    go_wp2_with fail
    go_ret
    exact ⟨rfl, ext_trans hx2 hx5⟩

end Go.Proofs.YtjbllanlfgbpkaaGreatDoor

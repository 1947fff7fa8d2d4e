/- the readable leaves of a part: plain; visitReadable's choice -/
import Derived.Test.YtjbllanlfgbpkaaGreatDoorUtf8
namespace Go.Proofs.YtjbllanlfgbpkaaGreatDoor
open Go.RowKit

def Sp.altT : Sp.Bs := [109, 117, 108, 116, 105, 112, 97, 114, 116, 47, 97, 108, 116, 101, 114, 110, 97, 116, 105, 118, 101]
/-- which part of an alternative -/
def Sp.choice (att : PartD → Bool) (q : List PartD) : Nat := match q.findIdx? (fun c => c.type == Sp.plainT && !att c) with | some i => i | none => q.length - 1
/-- does a part's j-th part count? -/
def Sp.takes (att : PartD → Bool) (t : Sp.Bs) (q : List PartD) (j : Nat) : Bool := if t == Sp.altT && !q.isEmpty then j == Sp.choice att q else true

def cellD (w : World) (g o : Nat) : Value := (w.cell? ⟨g, o, none⟩).getD undef
/-- the n-th part at a -/
def kidAt (w : World) (a : Option Addr) (n : Nat) : Value :=
  match a with
  | some x => .agg #[cellD w x.block (x.off + n * 5), cellD w x.block (x.off + n * 5 + 1), cellD w x.block (x.off + n * 5 + 2), cellD w x.block (x.off + n * 5 + 3), cellD w x.block (x.off + n * 5 + 4)]
  | none => undef
def partsPtr : Value → Option Addr
  | .agg ⟨[_, _, _, _, .slice a _ _]⟩ => a
  | _ => none

mutual
/-- the readable leaves of a part, with what they lie as -/
def reads (w : World) (att : PartD → Bool) : PartD → Value → List (PartD × Value)
  | .mk f t p b q, v =>
    if Sp.kind t == 2 || att (.mk f t p b q) then [] else if Sp.kind t == 0 then (if Sp.readT t then [(.mk f t p b q, v)] else [])
    else readsL w att (Sp.takes att t q) q (partsPtr v) 0
def readsL (w : World) (att : PartD → Bool) (sel : Nat → Bool) : List PartD → Option Addr → Nat → List (PartD × Value)
  | [], _, _ => []
  | d :: q, a, n => (if sel n then reads w att d (kidAt w a n) else []) ++ readsL w att sel q a (n + 1)
end
mutual
def Sp.readable (att : PartD → Bool) : PartD → List PartD
  | .mk f t p b q =>
    if Sp.kind t == 2 || att (.mk f t p b q) then [] else if Sp.kind t == 0 then (if Sp.readT t then [.mk f t p b q] else [])
    else Sp.readableL att (Sp.takes att t q) q 0
def Sp.readableL (att : PartD → Bool) (sel : Nat → Bool) : List PartD → Nat → List PartD
  | [], _ => []
  | d :: q, n => (if sel n then Sp.readable att d else []) ++ Sp.readableL att sel q (n + 1)
end
mutual
theorem reads_fst (w : World) (att : PartD → Bool) : ∀ (d : PartD) (v : Value), (reads w att d v).map Prod.fst = Sp.readable att d
  | .mk f t p b q, v => by
    rw [reads, Sp.readable]
    split
    · rfl
    · split
      · split <;> rfl
      · exact readsL_fst w att _ q _ 0
theorem readsL_fst (w : World) (att : PartD → Bool) (sel : Nat → Bool) : ∀ (q : List PartD) (a : Option Addr) (n : Nat), (readsL w att sel q a n).map Prod.fst = Sp.readableL att sel q n
  | [], _, _ => by rw [readsL, Sp.readableL]; rfl
  | d :: q, a, n => by
    rw [readsL, Sp.readableL, List.map_append, readsL_fst w att sel q a (n + 1)]
    congr 1
    split
    · exact reads_fst w att d _
    · rfl
end
theorem kidAt_of {w : World} {g o n : Nat} {v0 v1 v2 v3 v4 : Value} (h0 : w.cell? ⟨g, o + n * 5, none⟩ = some v0) (h1 : w.cell? ⟨g, o + n * 5 + 1, none⟩ = some v1) (h2 : w.cell? ⟨g, o + n * 5 + 2, none⟩ = some v2) (h3 : w.cell? ⟨g, o + n * 5 + 3, none⟩ = some v3) (h4 : w.cell? ⟨g, o + n * 5 + 4, none⟩ = some v4) :
    kidAt w (some ⟨g, o, none⟩) n = .agg #[v0, v1, v2, v3, v4] := by
  unfold kidAt cellD
  simp [h0, h1, h2, h3, h4]
mutual
theorem reads_at {w : World} (att : PartD → Bool) : ∀ (d : PartD) (v : Value), PartAt w d v → ∀ x ∈ reads w att d v, PartAt w x.1 x.2
  | .mk f t p b q, v, h => by
    rw [reads]
    split
    · intro x hx; cases hx
    · split
      · split
        · intro x hx
          rw [List.mem_singleton] at hx
          subst hx; exact h
        · intro x hx; cases hx
      · unfold PartAt at h
        obtain ⟨vf, vp, a, c, rfl, _, _, _, h3⟩ := h
        exact readsL_at att _ q a 0 h3
theorem readsL_at {w : World} (att : PartD → Bool) (sel : Nat → Bool) : ∀ (q : List PartD) (a : Option Addr) (n : Nat), PartsAt w q a n → ∀ x ∈ readsL w att sel q a n, PartAt w x.1 x.2
  | [], _, _, _ => by rw [readsL]; intro x hx; cases hx
  | d :: q, a, n, h => by
    unfold PartsAt at h
    obtain ⟨⟨g, o, v0, v1, v2, v3, v4, rfl, h0, h1, h2, h3, h4, hd⟩, hq⟩ := h
    rw [readsL]
    intro x hx
    rcases List.mem_append.1 hx with hx | hx
    · split at hx
      · rw [kidAt_of h0 h1 h2 h3 h4] at hx
        exact reads_at att d _ hd x hx
      · cases hx
    · exact readsL_at att sel q _ (n + 1) hq x hx
end

/-- The contract of body.attached on the parts of a class. -/
def AttOk (att : PartD → Bool) (Sub : PartD → Prop) : Prop :=
  (∀ d, Sub d → ∀ c ∈ d.parts, Sub c) ∧ (∀ d, Sub d → d.parts.length ≤ 1000000000) ∧
  ∀ d, Sub d → ∀ (v : Value) (w : World), PartAt w d v → G w → Calls Tryz.prog 125 #[v] w fun e w' => e = .returned (.bool (att d)) ∧ Ext w w'

set_option maxHeartbeats 1000000 in
theorem visit1_any {att : PartD → Bool} {Sub : PartD → Prop} (hA : AttOk att Sub) (d : PartD) (v : Value) (w : World) (hG : G w) (hd : Sub d) (hv : PartAt w d v) :
    Calls Tryz.prog 128 #[v] w fun e w' => e = .returned (.bool (d.type == Sp.plainT && !att d)) ∧ Ext w w' := by
  obtain ⟨a0, c0, a2, c2, a4, c4, rfl⟩ := hv.shape
  have hx1 : Ext w (w.alloc (.cells #[.slice a0 d.fields.length c0, str d.type, .slice a2 d.params.length c2, str d.body, .slice a4 d.parts.length c4] 26)) := ext_alloc (Below.refl _ _) _
  have hv1 := PartAt.ext hx1 _ _ hv
  have hG1 := hG.ext hx1
  have HA := Lib.hid (hA.2.2 d hd _ _ hv1 hG1)
  unfold Sp.plainT
  cases h1 : (d.type == [116, 101, 120, 116, 47, 112, 108, 97, 105, 110]) with
  | false =>
    clear HA
    go_enter Tryz.func128, Tryz.ntmps128
    go_wp2_with fail
    go_ret
    exact ⟨rfl, hx1⟩
  | true =>
    go_enter Tryz.func128, Tryz.ntmps128
    go_wp2_with fail
    refine HA.out.mono ?_
    rintro e w2 ⟨rfl, hx2⟩
    clear HA
    go_wp2_with fail
    go_ret
    exact ⟨by simp, ext_trans hx1 hx2⟩

theorem findIdx_ge {p : PartD → Bool} : ∀ (q : List PartD) (k : Nat), (∀ j c, j < k → q[j]? = some c → p c = false) → q.findIdx? p = ((q.drop k).findIdx? p).map (fun i => i + k)
  | q, 0, _ => by cases h : q.findIdx? p <;> simp [h]
  | [], k + 1, _ => by simp
  | a :: q, k + 1, h => by
    have ha : p a = false := h 0 a (by omega) rfl
    have ih := findIdx_ge q k (fun j c hj hc => h (j + 1) c (by omega) (by simpa using hc))
    rw [List.findIdx?_cons, ha, List.drop_succ_cons, ih]
    simp only [Bool.false_eq_true, if_false, Option.map_map]
    congr 1

def Sp.idxOf (q : List PartD) (p : PartD → Bool) : Int := match q.findIdx? p with | some i => (i : Int) | none => -1
set_option maxHeartbeats 1000000 in
theorem indexFunc_any {att : PartD → Bool} {Sub : PartD → Prop} (hA : AttOk att Sub) (q : List PartD) (a : Option Addr) (c : Nat) (w : World) (hG : G w) (hd : ∀ d ∈ q, Sub d) (hl : q.length ≤ 1000000000) (hv : PartsAt w q a 0) :
    Calls Tryz.prog 127 #[.slice a q.length c, .func (.func 128) #[] #[]] w fun e w' => e = .returned (.int .i64 (Sp.idxOf q (fun d => d.type == Sp.plainT && !att d))) ∧ Ext w w' := by
  have hI0 := Lib.hid (show ∀ j c, j < 0 → q[j]? = some c → (c.type == Sp.plainT && !att c) = false from fun j c hj => absurd hj (by omega))
  have HD := Lib.hid hd
  clear hd
  go_enter Tryz.func127, Tryz.ntmps127
  go_wp2_with fail
  go_loopw [8] (fun j wr => ∃ k : Nat, j = .int .i64 k ∧ k ≤ q.length ∧ Hid (∀ j c, j < k → q[j]? = some c → (c.type == Sp.plainT && !att c) = false) ∧ Ext w wr) (fun j _ => q.length - (intOf j).toNat)
  case atStart => exact ⟨0, rfl, Nat.zero_le _, hI0, Below.refl _ _⟩
  case round =>
    obtain ⟨k, rfl, hk, HR, hx⟩ := hrel
    clear hI0
    by_cases hlt : k < q.length
    case neg =>
      have HF := Lib.hid (show Sp.idxOf q (fun d => d.type == Sp.plainT && !att d) = -1 by
        unfold Sp.idxOf
        rw [findIdx_ge q k HR.out, List.drop_eq_nil_of_le (by omega)]
        rfl)
      clear HR
      go_wp2_with fail
      go_ret
      exact ⟨ret_int (by rw [HF.out]), hx⟩
    have hdk : q[k]? = some q[k] := List.getElem?_eq_getElem hlt
    have hP := PartsAt.ext hx q a 0 hv
    obtain ⟨g, o, a0, cc0, a2, cc2, a4, cc4, rfl, e0, e1, e2, e3, e4, hdp⟩ := PartsAt.at q a 0 k q[k] hP hdk
    rw [Nat.zero_add] at e0 e1 e2 e3 e4
    have hsub := HD.out _ (List.getElem_mem hlt)
    have hGr := hG.ext hx
    clear hP
    go_wp2_with fail
    refine (visit1_any hA q[k] _ _ hGr hsub hdp).mono ?_
    rintro e w4 ⟨rfl, hx4⟩
    cases hr : (q[k].type == Sp.plainT && !att q[k]) with
    | true =>
      have HF := Lib.hid (show Sp.idxOf q (fun d => d.type == Sp.plainT && !att d) = k by
        unfold Sp.idxOf
        rw [findIdx_ge q k HR.out, List.drop_eq_getElem_cons hlt, List.findIdx?_cons, hr]
        simp)
      clear HR hr
      go_wp2_with fail
      go_ret
      exact ⟨ret_int (by rw [HF.out]), ext_trans hx hx4⟩
    | false =>
      have HN := Lib.hid (show ∀ j c, j < k + 1 → q[j]? = some c → (c.type == Sp.plainT && !att c) = false by
        intro j c hj hc
        rcases Nat.lt_or_ge j k with h | h
        · exact HR.out j c h hc
        · obtain rfl : j = k := by omega
          rw [hdk] at hc
          cases hc
          exact hr)
      clear HR hr
      go_wp2_with fail
      exact ⟨⟨k + 1, by go_num, hlt, HN, ext_trans hx hx4⟩, by simp [intOf]; omega⟩

abbrev allOf : Nat → Bool := fun _ => true
theorem readsL_append (w : World) (att : PartD → Bool) (sel : Nat → Bool) (a : Option Addr) : ∀ (q1 q2 : List PartD) (n : Nat), readsL w att sel (q1 ++ q2) a n = readsL w att sel q1 a n ++ readsL w att sel q2 a (n + q1.length)
  | [], q2, n => by simp [readsL]
  | d :: q1, q2, n => by
    rw [List.cons_append, readsL, readsL, readsL_append w att sel a q1 q2 (n + 1), List.append_assoc, List.length_cons]
    rw [show n + 1 + q1.length = n + (q1.length + 1) by omega]
theorem readsL_succ (w : World) (att : PartD → Bool) (a : Option Addr) (q : List PartD) (j : Nat) (h : j < q.length) : readsL w att allOf (q.take (j + 1)) a 0 = readsL w att allOf (q.take j) a 0 ++ reads w att q[j] (kidAt w a j) := by
  rw [List.take_add_one, List.getElem?_eq_getElem h, readsL_append]
  simp [readsL, Nat.min_eq_left (Nat.le_of_lt h)]
theorem readsL_get (w : World) (att : PartD → Bool) (a : Option Addr) (q : List PartD) (j : Nat) (h : j < q.length) (i : Nat) (x : PartD × Value) (hx : (reads w att q[j] (kidAt w a j))[i]? = some x) :
    (readsL w att allOf q a 0)[(readsL w att allOf (q.take j) a 0).length + i]? = some x := by
  have hi : i < (reads w att q[j] (kidAt w a j)).length := (List.getElem?_eq_some_iff.1 hx).1
  have e := readsL_append w att allOf a (q.take (j + 1)) (q.drop (j + 1)) 0
  rw [List.take_append_drop, readsL_succ w att a q j h] at e
  rw [e, List.append_assoc, List.getElem?_append_right (by omega), Nat.add_sub_cancel_left, List.getElem?_append_left hi]
  exact hx
theorem readsL_none (w : World) (att : PartD → Bool) (a : Option Addr) (sel : Nat → Bool) : ∀ (q : List PartD) (n : Nat), (∀ j, n ≤ j → sel j = false) → readsL w att sel q a n = []
  | [], n, _ => by rw [readsL]
  | d :: q, n, h => by
    rw [readsL, h n (Nat.le_refl _), readsL_none w att a sel q (n + 1) (fun j hj => h j (by omega))]
    rfl
theorem readsL_one (w : World) (att : PartD → Bool) (a : Option Addr) : ∀ (q : List PartD) (n i : Nat) (h : i < q.length), readsL w att (fun j => j == n + i) q a n = reads w att q[i] (kidAt w a (n + i))
  | d :: q, n, 0, h => by
    rw [readsL, readsL_none w att a _ q (n + 1) (fun j hj => by simp; omega)]
    simp
  | d :: q, n, i + 1, h => by
    rw [readsL]
    have := readsL_one w att a q (n + 1) i (by simpa using h)
    rw [show n + 1 + i = n + (i + 1) by omega] at this
    rw [this]
    simp
theorem kidAt_shift (w : World) (g o i : Nat) : kidAt w (some ⟨g, o + i * 5, none⟩) 0 = kidAt w (some ⟨g, o, none⟩) i := by
  simp [kidAt]
theorem readsL_single (w : World) (att : PartD → Bool) (g o i : Nat) (q : List PartD) (h : i < q.length) : readsL w att (fun j => j == i) q (some ⟨g, o, none⟩) 0 = readsL w att allOf [q[i]] (some ⟨g, o + i * 5, none⟩) 0 := by
  have := readsL_one w att (some ⟨g, o, none⟩) q 0 i h
  rw [Nat.zero_add] at this
  rw [this, readsL, readsL, kidAt_shift]
  simp
theorem PartsAt.single {w : World} {q : List PartD} {g o i : Nat} (hi : i < q.length) (h : PartsAt w q (some ⟨g, o, none⟩) 0) : PartsAt w [q[i]] (some ⟨g, o + i * 5, none⟩) 0 := by
  obtain ⟨g', o', a0, c0, a2, c2, a4, c4, e, h0, h1, h2, h3, h4, hd⟩ := PartsAt.at q _ 0 i q[i] h (List.getElem?_eq_getElem hi)
  cases e
  rw [Nat.zero_add] at h0 h1 h2 h3 h4
  unfold PartsAt PartsAt
  refine ⟨⟨g, o + i * 5, _, _, _, _, _, rfl, ?_, ?_, ?_, ?_, ?_, hd⟩, trivial⟩
  all_goals rw [Nat.zero_mul, Nat.add_zero]
  all_goals assumption
theorem Sp.kind_cases (t : Sp.Bs) : Sp.kind t = 0 ∨ Sp.kind t = 1 ∨ Sp.kind t = 2 := by
  unfold Sp.kind
  split
  · simp
  · split <;> simp

end Go.Proofs.YtjbllanlfgbpkaaGreatDoor

/- text.words: its iterator; Fields, Squeeze. -/
import Derived.Test.YtjbllanlfgbpkaaGreatDoorRange
import Derived.Test.YtjbllanlfgbpkaaGreatDoorText1
namespace Go.Proofs.YtjbllanlfgbpkaaGreatDoor
open Go.RowKit
theorem drop_cons (s : ByteArray) (j : Nat) (h : j < s.size) : s.data.toList.drop j = s[j] :: s.data.toList.drop (j + 1) := by
  rw [List.drop_eq_getElem_cons (by simpa using h)]; rfl

/-- the word that begins at j and ends in front of m is the next one -/
theorem words_next (s : ByteArray) (j m k : Nat) (hj : j < s.size) (hjm : j < m) (hm : m ≤ s.size) (h0 : Sp.isWhite s[j] = false) (hall : ∀ q, j ≤ q → q < m → (h' : q < s.size) → Sp.isWhite s[q] = false)
    (hend : ∀ h : m < s.size, Sp.isWhite s[m] = true) (hwd : Sp.words (s.data.toList.drop j) = (Sp.words s.data.toList).drop k) :
    ((Sp.words s.data.toList).map str)[k]? = some (.string (s.extract j m)) ∧ Sp.words (s.data.toList.drop m) = (Sp.words s.data.toList).drop (k + 1) ∧ k + 1 ≤ (Sp.words s.data.toList).length := by
  have hsplit : s.data.toList.drop j = (s.data.toList.drop j).take (m - j) ++ s.data.toList.drop m := by
    have e : s.data.toList.drop m = (s.data.toList.drop j).drop (m - j) := by rw [List.drop_drop]; congr 1; omega
    rw [e, List.take_append_drop]
  have hlen : s.data.toList.length = s.size := by simp
  have hspan := Sp.words_span ((s.data.toList.drop j).take (m - j)) (s.data.toList.drop m) (by
      intro e
      have := congrArg List.length e
      simp at this
      omega) (by
      intro c hc
      obtain ⟨i, hi, rfl⟩ := List.mem_iff_getElem.1 hc
      simp only [List.length_take, List.length_drop, hlen] at hi
      simp only [List.getElem_take, List.getElem_drop]
      exact hall (j + i) (by omega) (by omega) (by omega)) (by
      intro d r e
      by_cases hlt : m < s.size
      · rw [drop_cons s m hlt] at e
        cases e
        exact hend hlt
      · rw [List.drop_eq_nil_of_le (by rw [hlen]; omega)] at e
        cases e)
  rw [← hsplit, hwd] at hspan
  have hk : k < (Sp.words s.data.toList).length := by
    have := congrArg List.length hspan
    simp at this
    omega
  rw [List.drop_eq_getElem_cons hk] at hspan
  injection hspan with h1 h2
  refine ⟨?_, h2.symm, hk⟩
  rw [List.getElem?_map, List.getElem?_eq_getElem hk, h1]
  simp only [Option.map_some]
  congr 1
  simp only [str]
  congr 1
  apply ByteArray.ext
  apply Array.ext'
  simp [ByteArray.data_extract, Array.toList_extract, List.extract_eq_take_drop]

attribute [local go_sem] Oper.semAt_some wide_fn wide_depth round_fn round_depth

set_option maxHeartbeats 1000000 in
theorem words_iter (s : ByteArray) (b : Nat) (w0 : World) (hs : s.size ≤ 1000000000) (hb : w0.heap[b]? = some (.cells #[.string s] 9 (0, 0))) :
    Iter 86 #[.pointer (some ⟨b, 0, none⟩)] ((Sp.words s.data.toList).map str) (· = b) w0 := by
  intro l J Jx W hO hJ hJx hY h0
  have hbW : W.heap[b]? = some (.cells #[.string s] 9 (0, 0)) := (hO.block b (lt_of_block hb) (fun h => h rfl)).trans hb
  refine callsIn_of_wp Tryz.func86 rfl trivial ?_ rfl
  simp only [Tryz.ntmps86, List.size_toArray, List.length_cons, List.length_nil, Nat.reduceAdd, Nat.reduceSub, Array.replicate_succ, Array.replicate_zero, List.push_toArray, List.append_toArray, List.nil_append, List.cons_append]
  gi_wp2
  gi_loopw [3] (fun i wr => ∃ j k : Nat, i = .int .i64 j ∧ j ≤ s.size ∧ Sp.words (s.data.toList.drop j) = (Sp.words s.data.toList).drop k ∧ k ≤ (Sp.words s.data.toList).length ∧ J k (· = b) wr ∧ wr.heap[b]? = some (.cells #[.string s] 9 (0, 0))) (fun i _ => s.size - (intOf i).toNat)
  case atStart => exact ⟨0, 0, rfl, Nat.zero_le _, rfl, Nat.zero_le _, h0, hbW⟩
  case round =>
    obtain ⟨j, k, rfl, hj, hwd, hkl, hJk, hbw⟩ := hrel
    have c0 := cell_of_one hbw
    replace hwd := Lib.hid hwd
    by_cases hlt : j < s.size
    · by_cases hw : Sp.isWhite s[j] = true
      · gi_wp2_with (gi_at_call 41; refine (callsIn_wide.2 (white_any _ _)).mono ?_; rintro e w' ⟨rfl, rfl⟩)
        refine ⟨⟨j + 1, k, by go_num, hlt, ?_, hkl, hJk, hbw⟩, by simp [intOf]; omega⟩
        rw [← hwd.out, drop_cons s j hlt, Sp.words_white hw]
      · have HN := Lib.hid hw; clear hw
        have hwf : Sp.isWhite s[j] = false := by simpa using HN.out
        gi_wp2_with (gi_at_call 41; refine (callsIn_wide.2 (white_any _ _)).mono ?_; rintro e w' ⟨rfl, rfl⟩)
        gi_loop [3] (fun i => ∃ m : Nat, i = .int .i64 m ∧ j ≤ m ∧ m ≤ s.size ∧ ∀ q, j ≤ q → (h : q < m) → (h' : q < s.size) → Sp.isWhite s[q] = false) (fun i => s.size - (intOf i).toNat)
        case atStart => exact ⟨j, rfl, Nat.le_refl _, hj, fun q h1 h2 => absurd h1 (by omega)⟩
        case round =>
          obtain ⟨m, rfl, hjm, hm, hall⟩ := hrel
          have HA := Lib.hid hall; clear hall
          by_cases hgo : ∃ h : m < s.size, Sp.isWhite s[m] = false
          · obtain ⟨hlm, hwf⟩ := hgo
            gi_wp2_with (gi_at_call 41; refine (callsIn_wide.2 (white_any _ _)).mono ?_; rintro e w' ⟨rfl, rfl⟩)
            refine ⟨⟨m + 1, by go_num, by omega, hlm, ?_⟩, by simp [intOf]; omega⟩
            intro q h1 h2 h'
            rcases Nat.lt_or_ge q m with h3 | h3
            · exact HA.out q h1 h3 h'
            · obtain rfl : q = m := by omega
              exact hwf
          · have hend : ∀ h : m < s.size, Sp.isWhite s[m] = true := by
              intro h
              cases hb : Sp.isWhite s[m] with
              | true => rfl
              | false => exact absurd ⟨h, hb⟩ hgo
            have hjlt : j < m := by
              rcases Nat.lt_or_ge j m with h | h
              · exact h
              · obtain rfl : j = m := by omega
                exact absurd (hend hlt) HN.out
            have hnx := Lib.hid (words_next s j m k hlt hjlt hm hwf HA.out hend hwd.out)
            obtain ⟨fn, tmps, assign, body, hy, hR⟩ := hY k _ _ _ hnx.out.1 hJk
            clear hgo
            by_cases hlm : m < s.size
            · have hwm := hend hlm
              clear hend
              gi_wp2_with (gi_at_call 41; refine (callsIn_wide.2 (white_any _ _)).mono ?_; rintro e w' ⟨rfl, rfl⟩)
              refine hR.mono ?_
              rintro e W3 ⟨hO3, (⟨rfl, hJ3⟩ | ⟨rfl, hJx3⟩)⟩
              · have hb3 := (hO3.block b (lt_of_block hbw) (fun h => h rfl)).trans hbw
                gi_wp2
                exact ⟨⟨m, k + 1, rfl, hm, hnx.out.2.1, hnx.out.2.2, hJ3, hb3⟩, by simp [intOf]; omega⟩
              · gi_wp2
                refine bodyPost_ret (results_none rfl _ _ _) rfl ?_
                exact ⟨⟨_, rfl⟩, _, .inr hJx3⟩
            · clear hend
              gi_wp2
              refine hR.mono ?_
              rintro e W3 ⟨hO3, (⟨rfl, hJ3⟩ | ⟨rfl, hJx3⟩)⟩
              · have hb3 := (hO3.block b (lt_of_block hbw) (fun h => h rfl)).trans hbw
                gi_wp2
                exact ⟨⟨m, k + 1, rfl, hm, hnx.out.2.1, hnx.out.2.2, hJ3, hb3⟩, by simp [intOf]; omega⟩
              · gi_wp2
                refine bodyPost_ret (results_none rfl _ _ _) rfl ?_
                exact ⟨⟨_, rfl⟩, _, .inr hJx3⟩
    · gi_wp2
      refine bodyPost_end (results_none rfl _ _ _) rfl ?_
      refine ⟨⟨_, rfl⟩, (· = b), .inl ?_⟩
      have h1 := hwd.out
      rw [List.drop_eq_nil_of_le (by simp; omega)] at h1
      have h2 := congrArg List.length h1
      simp [Sp.words] at h2
      obtain rfl : k = (Sp.words s.data.toList).length := by omega
      simpa using hJk
theorem words_any (s : ByteArray) (w : World) :
    Calls Tryz.prog 44 #[.string s] w fun e w' => e = .returned (.func (.func 86) #[] #[.pointer (some ⟨w.heap.size, 0, none⟩)]) ∧ w' = w.alloc (.cells #[.string s] 9) := by
  go_enter Tryz.func44, Tryz.ntmps44
  go_wp2
  go_ret
  exact ⟨rfl, rfl⟩

set_option maxHeartbeats 1000000 in
theorem squeeze_any (s : ByteArray) (w : World) (hs : s.size ≤ 1000000000) :
    Calls Tryz.prog 15 #[.string s] w fun e w' => e = .returned (str (Sp.squeeze s.data.toList)) ∧ Ext w w' := by
  refine (callsIn_wide (n := 0)).1 (callsIn_of_wp_marks Tryz.func15 rfl trivial ?_ rfl)
  simp only [Tryz.ntmps15, List.size_toArray, List.length_cons, List.length_nil, Nat.reduceAdd, Nat.reduceSub, Array.replicate_succ, Array.replicate_zero, List.push_toArray, List.append_toArray, List.nil_append, List.cons_append]
  gi_wp2_with (gi_at_call 44; refine (callsIn_wide.2 (words_any _ _)).mono ?_; rintro e w' ⟨rfl, rfl⟩)
  have hb1 : ((w.alloc (.cells #[.pointer none, .slice none 0 0] 54)).alloc (.cells #[.string s] 9)).heap[w.heap.size + 1]? = some (.cells #[.string s] 9 (0, 0)) := by
    have := heap_alloc_new (w.alloc (.cells #[.pointer none, .slice none 0 0] 54)) (.cells #[.string s] 9)
    rwa [World.size_alloc] at this
  have hE0 : Ext w ((w.alloc (.cells #[.pointer none, .slice none 0 0] 54)).alloc (.cells #[.string s] 9)) := ext_alloc (ext_alloc (Below.refl _ _) _) _
  refine wp_range (gf := 86) (lb := #[.pointer (some ⟨w.heap.size + 1, 0, none⟩)]) rfl (enters_of Tryz.func86 (by kernel_rfl) rfl) (words_iter s _ _ hs hb1) (Only.refl _ _)
    (fun b h => by subst h; simp) (fun b h => by subst h; simp) rfl (fun k T W => BI w w.heap.size (Sp.sqAll ((Sp.words s.data.toList).take k)) T W) (fun _ _ _ => False) (BI.abides w _ _ _ (by simp; omega)) (fun _ _ _ _ _ _ h => h.elim)
    (BI.new ((Bld.new w).only (Only.alloc (Only.refl (fun _ => False) _) _) (fun h => h) (fun _ h => by cases h)) (by simp) hE0 (fun k h => by subst h; simp) (Nat.le_refl _))
    (fun x => { tmps := #[.string s, undef, .string { data := #[] }, .pointer (some ⟨w.heap.size, 0, none⟩), x, .string s, .func (.func 86) #[] #[.pointer (some ⟨w.heap.size + 1, 0, none⟩)], x, undef, undef, undef, undef, undef, undef], defers := [] }) ?assign ?body ?done ?stop
  case assign =>
    intro l x W K hK
    gi_wp2
    exact hK
  case body =>
    rintro l k x T W hx hI
    rw [List.getElem?_map] at hx
    obtain ⟨wd, hwd, rfl⟩ := Option.map_eq_some_iff.1 hx
    have hl1 := Sp.sqAll_take_len s.data.toList k
    have hl2 := Sp.sqAll_take_len s.data.toList (k + 1)
    rw [Sp.sqAll_succ _ _ _ hwd] at hl2
    have HX := Lib.hid (Sp.sqAll_succ _ _ _ hwd)
    clear hx hwd
    generalize Sp.sqAll ((Sp.words s.data.toList).take k) = acc at *
    have hsz : s.data.toList.length = s.size := by simp
    rw [hsz] at hl1 hl2
    clear hsz
    have hw0 : ¬ acc.length = 0 → (Sp.sqStep acc wd).length = acc.length + 1 + wd.length := fun h => by simp [Sp.sqStep, h]; omega
    have hw1 : acc.length = 0 → (Sp.sqStep acc wd).length = wd.length := fun h => by simp [Sp.sqStep, h]
    by_cases hz : acc.length = 0
    · have hacc : acc = [] := List.eq_nil_of_length_eq_zero hz
      subst hacc
      have hlw := hw1 rfl
      gi_wp2_with (gi_at_call 45; refine (CallsIn.inRound l (callsIn_wide.2 (biLen_any hI))).mono ?_; rintro e w' ⟨rfl, rfl⟩)
      refine (CallsIn.inRound l (callsIn_wide.2 (biWriteString_any _ hI (by simp; omega)))).mono ?_
      rintro e W2 ⟨rfl, hI2, hO2⟩
      have hfin : BI w w.heap.size (Sp.sqStep [] wd) T W2 := by simpa [Sp.sqStep] using hI2
      gi_wp2
      exact ⟨hO2, by show BI w w.heap.size (Sp.sqAll ((Sp.words s.data.toList).take (k + 1))) T _; rw [HX.out]; exact hfin⟩
    · have hpos : 0 < acc.length := by omega
      have hlw := hw0 hz
      gi_wp2_with (gi_at_call 45; refine (CallsIn.inRound l (callsIn_wide.2 (biLen_any hI))).mono ?_; rintro e w' ⟨rfl, rfl⟩)
      refine (CallsIn.inRound l (callsIn_wide.2 (biWriteByte_any 32 hI (by omega)))).mono ?_
      rintro e W2 ⟨rfl, hI2, hO2⟩
      gi_wp2
      refine (CallsIn.inRound l (callsIn_wide.2 (biWriteString_any _ hI2 (by simp; omega)))).mono ?_
      rintro e W3 ⟨rfl, hI3, hO3⟩
      have hfin : BI w w.heap.size (Sp.sqStep acc wd) T W3 := by simpa [Sp.sqStep, hz] using hI3
      gi_wp2
      exact ⟨hO2.trans hO3 (fun _ _ h => h), by show BI w w.heap.size (Sp.sqAll ((Sp.words s.data.toList).take (k + 1))) T _; rw [HX.out]; exact hfin⟩
  case done =>
    rintro D T W hD hTD hI hK
    gi_wp2_with (gi_at_call 33; refine (callsIn_wide.2 (biString_any hI)).mono ?_)
    rintro e W2 ⟨rfl, hE2, hK2⟩
    replace hK := hK2 D _ hTD hK
    clear hK2 hI
    gi_wp2
    refine ⟨by simp, .inl ⟨_, _, rfl, run_takeDeferred hK, ?_⟩⟩
    refine ⟨_, results_tmp rfl _ _ _, rfl, ?_⟩
    exact hE2.trans ((Only.refl (fun k => k = D) W2).grown (grownBy_putObj' _ D _) (fun k e _ => by cases e; rfl) |>.below hE2.size (fun k hk e => by subst e; simp at hD; omega))
  case stop =>
    rintro D c T W hD hTD h
    exact h.elim

end Go.Proofs.YtjbllanlfgbpkaaGreatDoor

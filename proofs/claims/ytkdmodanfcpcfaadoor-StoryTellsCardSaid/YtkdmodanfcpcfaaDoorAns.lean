/- DERIVED. Chapter 51: an answer's text, of the program and of the reference. -/
import Derived.Test.YtkdmodanfcpcfaaDoorRefCall
namespace Go.Proofs.YtkdmodanfcpcfaaDoor
open Go.RowKit

structure AnsA where
  err : Int
  ok : Bool
  handle : Nat
  ba : Option Addr
  bn : Nat
  bc : Nat
structure AnsA.good (a : AnsA) : Prop where
  err : -9223372036854775808 ≤ a.err ∧ a.err ≤ 9223372036854775807
  handle : a.handle < 18446744073709551616
def answerT (c : CallA) (a : AnsA) (l : List DueR) : List UInt8 :=
  if a.err ≠ 0 then [101, 114, 114, 111, 114, 32] ++ errT a.err else if c.kind = 4 ∨ c.kind = 5 then [116, 111, 111, 107] ++ timersT l
  else if a.ok = false then [110, 111] else if c.kind = 1 ∨ c.kind = 3 then [104, 97, 110, 100, 108, 101, 32] ++ handleT a.handle else [121, 101, 115]
theorem answer_len (c : CallA) {a : AnsA} (ha : a.good) {l : List DueR} (hl : ∀ d ∈ l, d.ok) (hn : l.length ≤ 100) : (Str (answerT c a l)).size ≤ 6500 := by
  rw [Str.size]
  unfold answerT
  have h1 := err_len a.err ha.err.1 ha.err.2
  have h2 := timers_len hl
  have h3 := handle_len ha.handle
  rw [Str.size] at h1 h3
  split
  · simp; omega
  · split
    · simp; omega
    · split
      · simp
      · split
        · simp; omega
        · simp

theorem one_str (w : World) (x : List UInt8) : Rd encS (w.alloc (.cells #[.string (Str x)] 9)) (.slice (some ⟨w.heap.size, 0, none⟩) 1 1) [x] := by
  have h : Own encS 9 (w.alloc (.cells #[.string (Str x)] 9)) (.slice (some ⟨w.heap.size, 0, none⟩) 1 1) [x] := Own.lit (xs := [x]) (heap_alloc_new w _) rfl (by simp [maxLen])
  obtain ⟨g, h⟩ := h.rd; exact ⟨g, 0, h⟩

set_option maxRecDepth 20000 in
set_option maxHeartbeats 2000000 in
theorem answer_any (c : CallA) (a : AnsA) (l : List DueR) (w : World) (ht : Tab w) (ha : a.good) (hb : Rd encDue w (.slice a.ba a.bn a.bc) l) (hl : ∀ d ∈ l, d.ok) (hn : l.length ≤ 100) :
    Calls Tryd.prog 10 #[.agg #[.int .i64 c.kind, .int .i64 c.deadline, .int .u64 c.draw, .int .u64 c.handle, .int .i64 c.count], .agg #[.int .i64 a.err, .bool a.ok, .int .u64 a.handle, .slice a.ba a.bn a.bc]] w fun e w' => e = .returned (.string (Str (answerT c a l))) ∧ Fr [] w w' := by
  obtain ⟨res, hres⟩ : ∃ res, Str (answerT c a l) = res := ⟨_, rfl⟩
  rw [hres]
  have F0 : Fr [] w ((w.alloc (.cells #[.int .i64 c.kind, .int .i64 c.deadline, .int .u64 c.draw, .int .u64 c.handle, .int .i64 c.count] 24)).alloc (.cells #[.int .i64 a.err, .bool a.ok, .int .u64 a.handle, .slice a.ba a.bn a.bc] 28)) := ((Fr.refl _ _).alloc _).alloc _
  have HF0 := Lib.hid F0
  by_cases he : a.err = 0
  · by_cases hk : c.kind = 4 ∨ c.kind = 5
    · have hr : Str (answerT c a l) = Str (wordsT [116, 111, 111, 107] (l.map dueT)) := by
        unfold answerT; rw [if_neg (by simpa using he), if_pos hk, timers_words]
      have TM := timers_any (.slice a.ba a.bn a.bc) l _ (hb.keep0 F0) (ht.keep F0) hl hn
      have hw4 : (wordsT [116, 111, 111, 107] (l.map dueT)).length ≤ 1000000 := by
        rw [timers_words]; have := timers_len hl; simp; omega
      have WD := fun v W (hv : Rd encS W v (l.map dueT)) => wordsS_any [116, 111, 111, 107] v (l.map dueT) W hv hw4 (by simp; omega)
      have HT := Lib.hid (And.intro TM (And.intro WD (hres.symm.trans hr)))
      clear TM WD hr hb ht ha hl hn hw4 F0 hres
      rcases hk with hk | hk
      all_goals
        rw [he, hk] at HF0 HT ⊢
        go_enter Tryd.func10, Tryd.ntmps10
        go_wp2_with fail
        refine HT.out.1.mono ?_
        rintro e w1 ⟨v1, rfl, hv1, f1⟩
        have H1 := Lib.hid (And.intro hv1 (HF0.out.trans0 f1))
        clear hv1 f1 HF0
        go_wp2_with fail
        refine (HT.out.2.1 _ _ H1.out.1).mono ?_
        rintro e w2 ⟨rfl, rfl⟩
        have HE := Lib.hid HT.out.2.2
        clear HT
        go_wp2
        go_ret
        exact ⟨ret_str HE.out.symm, H1.out.2⟩
    · have q4 : (c.kind == 4) = false := by simp; omega
      have q5 : (c.kind == 5) = false := by simp; omega
      cases hok : a.ok
      · have hr : Str (answerT c a l) = ⟨#[110, 111]⟩ := by
          unfold answerT; rw [if_neg (by simpa using he), if_neg hk, if_pos hok]; rfl
        have HE := Lib.hid (hres.symm.trans hr)
        rw [he, hok] at HF0
        rw [he]
        clear hr hb ht ha hl hn F0 hres he hok hk
        go_enter Tryd.func10, Tryd.ntmps10
        go_wp2
        go_ret
        exact ⟨ret_str HE.out.symm, HF0.out⟩
      · by_cases hk2 : c.kind = 1 ∨ c.kind = 3
        · have hr : Str (answerT c a l) = Str (wordsT [104, 97, 110, 100, 108, 101] [handleT a.handle]) := by
            unfold answerT; rw [if_neg (by simpa using he), if_neg hk, if_neg (by simp [hok]), if_pos hk2]; simp [wordsT]
          have HN := handle_any a.handle ha.handle _ (ht.keep F0)
          have hw4 : (wordsT [104, 97, 110, 100, 108, 101] [handleT a.handle]).length ≤ 1000000 := by
            have := handle_len ha.handle
            rw [Str.size] at this
            simp [wordsT]; omega
          have WD := fun v W (hv : Rd encS W v [handleT a.handle]) => wordsS_any [104, 97, 110, 100, 108, 101] v [handleT a.handle] W hv hw4 (by simp)
          have OS := fun W => one_str W (handleT a.handle)
          obtain ⟨s, hs⟩ : ∃ s, Str (handleT a.handle) = s := ⟨_, rfl⟩
          rw [hs] at HN OS
          have HT := Lib.hid (And.intro HN (And.intro WD (And.intro OS (hres.symm.trans hr))))
          clear HN WD OS hr hb ht ha hl hn hw4 F0 hres hs hk
          rcases hk2 with hk2 | hk2
          all_goals
            rw [he, hok, hk2] at HF0 HT
            rw [he, hk2]
            clear q4 q5 he hok hk2
            go_enter Tryd.func10, Tryd.ntmps10
            go_wp2_with fail
            refine HT.out.1.mono ?_
            rintro e w1 ⟨rfl, f1⟩
            have H1 := Lib.hid (HF0.out.trans0 f1)
            clear f1 HF0
            go_wp2_with fail
            refine (HT.out.2.1 _ _ (HT.out.2.2.1 _)).mono ?_
            rintro e w2 ⟨rfl, rfl⟩
            have HE := Lib.hid HT.out.2.2.2
            clear HT
            go_wp2
            go_ret
            exact ⟨ret_str HE.out.symm, H1.out.alloc _⟩
        · have q1 : (c.kind == 1) = false := by simp; omega
          have q3 : (c.kind == 3) = false := by simp; omega
          have hr : Str (answerT c a l) = ⟨#[121, 101, 115]⟩ := by
            unfold answerT; rw [if_neg (by simpa using he), if_neg hk, if_neg (by simp [hok]), if_neg hk2]; rfl
          have HE := Lib.hid (hres.symm.trans hr)
          rw [he, hok] at HF0
          rw [he]
          clear hr hb ht ha hl hn F0 hres he hok hk hk2
          go_enter Tryd.func10, Tryd.ntmps10
          go_wp2
          go_ret
          exact ⟨ret_str HE.out.symm, HF0.out⟩
  · have hr : Str (answerT c a l) = Str (wordsT [101, 114, 114, 111, 114] [errT a.err]) := by
      unfold answerT; rw [if_pos he]; simp [wordsT]
    have HN := error_any a.err ha.err.1 ha.err.2 _ (ht.keep F0)
    have hw4 : (wordsT [101, 114, 114, 111, 114] [errT a.err]).length ≤ 1000000 := by
      have := err_len a.err ha.err.1 ha.err.2
      rw [Str.size] at this
      simp [wordsT]; omega
    have WD := fun v W (hv : Rd encS W v [errT a.err]) => wordsS_any [101, 114, 114, 111, 114] v [errT a.err] W hv hw4 (by simp)
    have OS := fun W => one_str W (errT a.err)
    have q0 : (a.err != 0) = true := by simpa using he
    obtain ⟨s, hs⟩ : ∃ s, Str (errT a.err) = s := ⟨_, rfl⟩
    rw [hs] at HN OS
    have HT := Lib.hid (And.intro HN (And.intro WD (And.intro OS (hres.symm.trans hr))))
    have q1 : (a.err == 0) = false := by simpa using he
    clear HN WD OS hr hb ht ha hl hn hw4 F0 hres hs he
    go_enter Tryd.func10, Tryd.ntmps10
    go_wp2_with fail
    refine HT.out.1.mono ?_
    rintro e w1 ⟨rfl, f1⟩
    have H1 := Lib.hid (HF0.out.trans0 f1)
    clear f1 HF0
    go_wp2_with fail
    refine (HT.out.2.1 _ _ (HT.out.2.2.1 _)).mono ?_
    rintro e w2 ⟨rfl, rfl⟩
    have HE := Lib.hid HT.out.2.2.2
    clear HT
    go_wp2
    go_ret
    exact ⟨ret_str HE.out.symm, H1.out.alloc _⟩

set_option maxRecDepth 20000 in
set_option maxHeartbeats 2000000 in
theorem refAnswer_any (c : CallA) (a : AnsA) (l : List DueR) (w : World) (ha : a.good) (hb : Rd encDue w (.slice a.ba a.bn a.bc) l) (hl : ∀ d ∈ l, d.ok) (hn : l.length ≤ 100) :
    Calls Tryd.prog 11 #[.agg #[.int .i64 c.kind, .int .i64 c.deadline, .int .u64 c.draw, .int .u64 c.handle, .int .i64 c.count], .agg #[.int .i64 a.err, .bool a.ok, .int .u64 a.handle, .slice a.ba a.bn a.bc]] w fun e w' => e = .returned (.string (Str (answerT c a l))) ∧ Fr [] w w' := by
  obtain ⟨res, hres⟩ : ∃ res, Str (answerT c a l) = res := ⟨_, rfl⟩
  rw [hres]
  have F0 : Fr [] w ((w.alloc (.cells #[.int .i64 c.kind, .int .i64 c.deadline, .int .u64 c.draw, .int .u64 c.handle, .int .i64 c.count] 24)).alloc (.cells #[.int .i64 a.err, .bool a.ok, .int .u64 a.handle, .slice a.ba a.bn a.bc] 28)) := ((Fr.refl _ _).alloc _).alloc _
  have HF0 := Lib.hid F0
  by_cases he : a.err = 0
  · by_cases hk : c.kind = 4 ∨ c.kind = 5
    · have TM := refTimers_any (.slice a.ba a.bn a.bc) l _ (hb.keep0 F0) hl hn
      have s1 : (Str (timersT l)).size ≤ 6400 := by rw [Str.size]; have := timers_len hl; omega
      obtain ⟨s, hs⟩ : ∃ s, Str (timersT l) = s := ⟨_, rfl⟩
      have hr : Str (answerT c a l) = ⟨#[116, 111, 111, 107]⟩ ++ s := by
        unfold answerT; rw [if_neg (by simpa using he), if_pos hk, ← hs]; exact ByteArray.ext (by simp [Str, ByteArray.data_append])
      rw [hs] at TM s1
      have HT := Lib.hid (And.intro TM (hres.symm.trans hr))
      clear TM hr hb ha hl hn F0 hres hs
      rcases hk with hk | hk
      all_goals
        rw [he, hk] at HF0 HT ⊢
        go_enter Tryd.func11, Tryd.ntmps11
        go_wp2_with fail
        refine HT.out.1.mono ?_
        rintro e w1 ⟨rfl, f1⟩
        have H1 := Lib.hid (HF0.out.trans0 f1)
        have HE := Lib.hid HT.out.2
        clear f1 HF0 HT
        go_wp2
        go_ret
        exact ⟨ret_str HE.out.symm, H1.out⟩
    · have q4 : (c.kind == 4) = false := by simp; omega
      have q5 : (c.kind == 5) = false := by simp; omega
      cases hok : a.ok
      · have hr : Str (answerT c a l) = ⟨#[110, 111]⟩ := by
          unfold answerT; rw [if_neg (by simpa using he), if_neg hk, if_pos hok]; rfl
        have HE := Lib.hid (hres.symm.trans hr)
        rw [he, hok] at HF0
        rw [he]
        clear hr hb ha hl hn F0 hres he hok hk
        go_enter Tryd.func11, Tryd.ntmps11
        go_wp2
        go_ret
        exact ⟨ret_str HE.out.symm, HF0.out⟩
      · by_cases hk2 : c.kind = 1 ∨ c.kind = 3
        · have HN := refHandle_any a.handle ha.handle ((w.alloc (.cells #[.int .i64 c.kind, .int .i64 c.deadline, .int .u64 c.draw, .int .u64 c.handle, .int .i64 c.count] 24)).alloc (.cells #[.int .i64 a.err, .bool a.ok, .int .u64 a.handle, .slice a.ba a.bn a.bc] 28))
          have s1 := handle_len ha.handle
          obtain ⟨s, hs⟩ : ∃ s, Str (handleT a.handle) = s := ⟨_, rfl⟩
          have hr : Str (answerT c a l) = ⟨#[104, 97, 110, 100, 108, 101, 32]⟩ ++ s := by
            unfold answerT; rw [if_neg (by simpa using he), if_neg hk, if_neg (by simp [hok]), if_pos hk2, ← hs]; exact ByteArray.ext (by simp [Str, ByteArray.data_append])
          rw [hs] at HN s1
          have HT := Lib.hid (And.intro HN (hres.symm.trans hr))
          clear HN hr hb ha hl hn F0 hres hs hk
          rcases hk2 with hk2 | hk2
          all_goals
            rw [he, hok, hk2] at HF0 HT
            rw [he, hk2]
            clear q4 q5 he hok hk2
            go_enter Tryd.func11, Tryd.ntmps11
            go_wp2_with fail
            refine HT.out.1.mono ?_
            rintro e w1 ⟨rfl, f1⟩
            have H1 := Lib.hid (HF0.out.trans0 f1)
            have HE := Lib.hid HT.out.2
            clear f1 HF0 HT
            go_wp2
            go_ret
            exact ⟨ret_str HE.out.symm, H1.out⟩
        · have q1 : (c.kind == 1) = false := by simp; omega
          have q3 : (c.kind == 3) = false := by simp; omega
          have hr : Str (answerT c a l) = ⟨#[121, 101, 115]⟩ := by
            unfold answerT; rw [if_neg (by simpa using he), if_neg hk, if_neg (by simp [hok]), if_neg hk2]; rfl
          have HE := Lib.hid (hres.symm.trans hr)
          rw [he, hok] at HF0
          rw [he]
          clear hr hb ha hl hn F0 hres he hok hk hk2
          go_enter Tryd.func11, Tryd.ntmps11
          go_wp2
          go_ret
          exact ⟨ret_str HE.out.symm, HF0.out⟩
  · have HN := refError_any a.err ha.err.1 ha.err.2 ((w.alloc (.cells #[.int .i64 c.kind, .int .i64 c.deadline, .int .u64 c.draw, .int .u64 c.handle, .int .i64 c.count] 24)).alloc (.cells #[.int .i64 a.err, .bool a.ok, .int .u64 a.handle, .slice a.ba a.bn a.bc] 28))
    have s1 := err_len a.err ha.err.1 ha.err.2
    obtain ⟨s, hs⟩ : ∃ s, Str (errT a.err) = s := ⟨_, rfl⟩
    have hr : Str (answerT c a l) = ⟨#[101, 114, 114, 111, 114, 32]⟩ ++ s := by
      unfold answerT; rw [if_pos he, ← hs]; exact ByteArray.ext (by simp [Str, ByteArray.data_append])
    rw [hs] at HN s1
    have q0 : (a.err != 0) = true := by simpa using he
    have q1 : (a.err == 0) = false := by simpa using he
    have HT := Lib.hid (And.intro HN (hres.symm.trans hr))
    clear HN hr hb ha hl hn F0 hres hs he
    go_enter Tryd.func11, Tryd.ntmps11
    go_wp2_with fail
    refine HT.out.1.mono ?_
    rintro e w1 ⟨rfl, f1⟩
    have H1 := Lib.hid (HF0.out.trans0 f1)
    have HE := Lib.hid HT.out.2
    clear f1 HF0 HT
    go_wp2
    go_ret
    exact ⟨ret_str HE.out.symm, H1.out⟩
end Go.Proofs.YtkdmodanfcpcfaaDoor

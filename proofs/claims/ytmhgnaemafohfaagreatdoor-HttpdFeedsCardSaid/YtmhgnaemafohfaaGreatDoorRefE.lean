/- The reference's fields (blotterref08): a head's headers. Conditions: the texts are short. -/
import Derived.Test.YtmhgnaemafohfaaGreatDoorRefD
namespace Go.Proofs.YtmhgnaemafohfaaGreatDoor
open Go.RowKit
set_option linter.unusedVariables false
set_option linter.unusedSimpArgs false
set_option maxRecDepth 100000

/-- A header's line; 0: it is none. -/
def fieldOk (s : B) : Bool := decide (1 ≤ eatL 4 s) && decide (eatL 4 s ≤ 64) && decide (eatL 4 s < s.length) && decide (s.getD (eatL 4 s) 0 = 58) && allL (trimL (s.drop (eatL 4 s + 1))) 0 8192 6
def fieldOf (s : B) : B × B := (lowL (s.take (eatL 4 s)), trimL (s.drop (eatL 4 s + 1)))
def fin (d : List (B × B)) (p : List (B × B) × Nat) : List (B × B) × Nat := if p.2 = 0 then (d ++ p.1, 0) else ([], p.2)
/-- Headers of lines (behind i of them), and why they are none. -/
def fieldsL : Nat → List B → List (B × B) × Nat
  | _, [] => ([], 0)
  | i, s :: l => if 32 ≤ i then ([], 431) else if fieldOk s = false then ([], 400) else fin [fieldOf s] (fieldsL (i + 1) l)
theorem fin_fin (d : List (B × B)) (x : B × B) (p : List (B × B) × Nat) : fin d (fin [x] p) = fin (d ++ [x]) p := by unfold fin; by_cases h : p.2 = 0 <;> simp [h]
theorem fieldsL_nil : ∀ (i : Nat) (l : List B), (fieldsL i l).2 ≠ 0 → (fieldsL i l).1 = []
  | _, [], h => absurd rfl h
  | i, s :: l, h => by unfold fieldsL at h ⊢; split; rfl; split; rfl; unfold fin at h ⊢; split; (rename_i h1 h2 h3; simp [h1, h2, h3] at h); rfl
theorem fin_nil (i : Nat) (l : List B) : fin [] (fieldsL i l) = fieldsL i l := by
  unfold fin; by_cases h : (fieldsL i l).2 = 0
  · rw [if_pos h, List.nil_append, ← h]
  · rw [if_neg h, ← fieldsL_nil i l h]
def FieldsRel (l : List B) (k : Nat) (done : List (B × B)) : Prop := fieldsL 0 l = fin done (fieldsL k (l.drop k))
theorem rel_step {l : List B} {k : Nat} {done : List (B × B)} {s : B} (h : FieldsRel l k done) (hd : l.drop k = s :: l.drop (k + 1)) (hk : k < 32) (ho : fieldOk s = true) : FieldsRel l (k + 1) (done ++ [fieldOf s]) := by
  unfold FieldsRel at *; rw [h, hd, fieldsL, if_neg (by omega), if_neg (by simp [ho]), fin_fin]
theorem rel_431 {l : List B} {k : Nat} {done : List (B × B)} {s : B} (h : FieldsRel l k done) (hd : l.drop k = s :: l.drop (k + 1)) (hk : 32 ≤ k) : fieldsL 0 l = ([], 431) := by
  unfold FieldsRel at *; rw [h, hd, fieldsL, if_pos hk]; rfl
theorem rel_400 {l : List B} {k : Nat} {done : List (B × B)} {s : B} (h : FieldsRel l k done) (hd : l.drop k = s :: l.drop (k + 1)) (hk : k < 32) (ho : fieldOk s = false) : fieldsL 0 l = ([], 400) := by
  unfold FieldsRel at *; rw [h, hd, fieldsL, if_neg (by omega), if_pos ho]; rfl
theorem rel_end {l : List B} {done : List (B × B)} (h : FieldsRel l l.length done) : fieldsL 0 l = (done, 0) := by
  unfold FieldsRel at *; rw [h, List.drop_length]; simp [fieldsL, fin]
theorem allV_any (s : ByteArray) (hs : s.size ≤ maxLen) (w : World) :
    Calls Tryz.prog 71 #[.string s, .int .i64 0, .int .i64 8192, .int .i64 6] w fun e w' => e = .returned (.bool (allL s.toList 0 8192 6)) ∧ Below w.heap.size w w' := all_any 6 (by decide) (by decide) 0 8192 s hs w
theorem eat4_any (s : ByteArray) (hs : s.size ≤ maxLen) (w : World) :
    Calls Tryz.prog 70 #[.string s, .int .i64 4] w fun e w' => e = .returned (.int .i64 (eatL 4 s.toList)) ∧ Below w.heap.size w w' := eat_any 4 (by decide) (by decide) s hs w

def FieldsIs (base : Nat) (l : List B) (e : Ending) (w' : World) : Prop :=
  ∃ v, e = .returned (.tuple #[v, .int .i64 (fieldsL 0 l).2]) ∧ w'.ownsRow base 72 2 v (fieldsL 0 l).1.length (pairs (fieldsL 0 l).1)
theorem fieldsIs_bad {base : Nat} {l : List B} {n : Nat} (h : fieldsL 0 l = ([], n)) (w' : World) : FieldsIs base l (.returned (.tuple #[.slice none 0 0, .int .i64 n])) w' := by
  unfold FieldsIs; rw [h]; exact ⟨_, rfl, World.ownsRow_nil _ _ _ _⟩
theorem size_from {s : ByteArray} {a n : Nat} (h : s.size ≤ n) : (s.extract a s.size).size ≤ n := by rw [ByteArray.size_extract]; omega
theorem size_to {s : ByteArray} {a n : Nat} (h : s.size ≤ n) : (s.extract 0 a).size ≤ n := by rw [ByteArray.size_extract]; omega
theorem trimL_le (l : B) : (trimL l).length ≤ l.length := by unfold trimL; simp; omega
set_option maxHeartbeats 4000000 in
theorem fields_any (l : List B) (v : Value) (w : World) (hR : Rd w 1 v l.length (strs l)) (hn : l.length ≤ 1048576) (hl : ∀ s ∈ l, s.length ≤ 1048576) :
    Calls Tryz.prog 46 #[v] w fun e w' => FieldsIs w.heap.size l e w' ∧ Below w.heap.size w w' := by
  have HR := Lib.hid hR
  have HL := Lib.hid hl
  clear hl
  obtain ⟨A, c, rfl⟩ := hR.shape
  clear hR
  go_enter Tryz.func46, Tryz.ntmps46
  go_wp2
  go_loopw [4, 10] (fun o i wr => ∃ (k : Nat) (done : List (B × B)), k ≤ l.length ∧ k ≤ 32 ∧ i = .int .i64 k ∧ Hid (done.length = k) ∧ FieldsRel l k done ∧ wr.ownsRow w.heap.size 72 2 o done.length (pairs done) ∧ Below w.heap.size w wr) (fun _ i _ => l.length - (intOf i).toNat)
  case atStart => exact ⟨0, [], Nat.zero_le _, Nat.zero_le _, rfl, rfl, (fin_nil 0 l).symm, World.ownsRow_nil _ _ _ _, Below.refl _ _⟩
  case round =>
    obtain ⟨k, done, hk, hk32, rfl, Hdk, he, hown, hb⟩ := hrel
    by_cases hlt : k < l.length
    case neg =>
      have hke : k = l.length := by omega
      have hf := rel_end (l := l) (done := done) (by rw [← hke]; exact he)
      have Hf := Lib.hid hf
      clear hf hke
      go_wp2
      refine bodyPost_ret (results_tmp2 rfl _ _ _) rfl ⟨?_, hb⟩
      unfold FieldsIs
      rw [Hf.out]
      exact ⟨_, rfl, hown⟩
    obtain ⟨s, hh⟩ : ∃ s, l[k]? = some s := ⟨l[k], List.getElem?_eq_getElem hlt⟩
    have hsl := HL.out s (List.mem_of_getElem? hh)
    have Hd := Lib.hid (show l.drop k = s :: l.drop (k + 1) by rw [List.drop_eq_getElem_cons hlt]; rw [List.getElem?_eq_getElem hlt] at hh; rw [Option.some.inj hh])
    obtain ⟨b, o, rfl, hc⟩ := (HR.out.below hb).strAt hh
    clear hh
    have hr := Below.refl wr.heap.size wr
    have Hs := Lib.hid (toL_ofL s)
    have hz := size_ofL s
    generalize ofL s = S at Hs hc hz
    have hS : S.size ≤ 1048576 := by omega
    have HZ := Lib.hid hz
    have hdk' : done.length ≤ 32 := by rw [Hdk.out]; omega
    clear hz hsl
    have hwk : IntKind.i64.wrap (k : Int) = k := IntWalk.i64_in _ (by omega)
    by_cases h32 : 32 ≤ k
    case pos =>
      have Hf := Lib.hid (rel_431 he Hd.out h32)
      go_wp2_with (first | (go_at_call 70; refine (eat4_any _ (by unfold maxLen; omega) _).mono ?_; rintro e w4 ⟨rfl, hb4⟩; replace hr := hr.trans (hb4.mono hr.size); clear hb4))
      refine bodyPost_ret (results_tmp2 rfl _ _ _) rfl ⟨fieldsIs_bad Hf.out _, hb.trans (hr.mono hb.size)⟩
    have h32' : k < 32 := by omega
    have heS := eatL_le 4 S.toList
    rw [len_toL] at heS
    by_cases h1 : eatL 4 S.toList < 1 ∨ 64 < eatL 4 S.toList ∨ eatL 4 S.toList = S.size
    case pos =>
      have Hf := Lib.hid (rel_400 he Hd.out h32' (by
        unfold fieldOk; rw [← Hs.out, len_toL]
        rcases h1 with h | h | h
        · rw [decide_eq_false (by omega : ¬ 1 ≤ eatL 4 S.toList)]; rfl
        · rw [decide_eq_false (by omega : ¬ eatL 4 S.toList ≤ 64)]; simp
        · rw [decide_eq_false (by omega : ¬ eatL 4 S.toList < S.size)]; simp))
      rcases h1 with h | h | h
      · go_wp2_with (first | (go_at_call 70; refine (eat4_any _ (by unfold maxLen; omega) _).mono ?_; rintro e w4 ⟨rfl, hb4⟩; replace hr := hr.trans (hb4.mono hr.size); clear hb4))
        refine bodyPost_ret (results_tmp2 rfl _ _ _) rfl ⟨fieldsIs_bad Hf.out _, hb.trans (hr.mono hb.size)⟩
      · go_wp2_with (first | (go_at_call 70; refine (eat4_any _ (by unfold maxLen; omega) _).mono ?_; rintro e w4 ⟨rfl, hb4⟩; replace hr := hr.trans (hb4.mono hr.size); clear hb4))
        refine bodyPost_ret (results_tmp2 rfl _ _ _) rfl ⟨fieldsIs_bad Hf.out _, hb.trans (hr.mono hb.size)⟩
      · by_cases h1 : eatL 4 S.toList < 1
        · go_wp2_with (first | (go_at_call 70; refine (eat4_any _ (by unfold maxLen; omega) _).mono ?_; rintro e w4 ⟨rfl, hb4⟩; replace hr := hr.trans (hb4.mono hr.size); clear hb4))
          refine bodyPost_ret (results_tmp2 rfl _ _ _) rfl ⟨fieldsIs_bad Hf.out _, hb.trans (hr.mono hb.size)⟩
        by_cases h2 : 64 < eatL 4 S.toList
        · go_wp2_with (first | (go_at_call 70; refine (eat4_any _ (by unfold maxLen; omega) _).mono ?_; rintro e w4 ⟨rfl, hb4⟩; replace hr := hr.trans (hb4.mono hr.size); clear hb4))
          refine bodyPost_ret (results_tmp2 rfl _ _ _) rfl ⟨fieldsIs_bad Hf.out _, hb.trans (hr.mono hb.size)⟩
        have hb1 : ((eatL 4 S.toList : Int) == S.size) = true := by simp; omega
        clear h
        go_wp2_with (first | (go_at_call 70; refine (eat4_any _ (by unfold maxLen; omega) _).mono ?_; rintro e w4 ⟨rfl, hb4⟩; replace hr := hr.trans (hb4.mono hr.size); clear hb4))
        refine bodyPost_ret (results_tmp2 rfl _ _ _) rfl ⟨fieldsIs_bad Hf.out _, hb.trans (hr.mono hb.size)⟩
    have n1 : 1 ≤ eatL 4 S.toList := by omega
    have n2 : eatL 4 S.toList ≤ 64 := by omega
    have n3 : eatL 4 S.toList < S.size := by omega
    have n4 : ((eatL 4 S.toList : Int) == S.size) = false := by simp; omega
    have Hg := Lib.hid (getD_eq S _ n3)
    have Hto := Lib.hid (toL_to S (eatL 4 S.toList))
    have Htr := Lib.hid (toL_from S (eatL 4 S.toList + 1))
    have Hok : Hid (fieldOk s = (decide (S[eatL 4 S.toList] = 58) && allL (trimL (S.toList.drop (eatL 4 S.toList + 1))) 0 8192 6)) := by
      show _ = _; unfold fieldOk; rw [← Hs.out, len_toL, Hg.out]; simp [n1, n2, n3]
    clear h1
    by_cases h58 : S[eatL 4 S.toList] = 58
    case neg =>
      have Hf := Lib.hid (rel_400 he Hd.out h32' (by rw [Hok.out]; simp [h58]))
      have h58' : ((S[eatL 4 S.toList].toNat : Int) != 58) = true := byte_ne (d := 58) h58
      clear h58
      go_wp2_with (first | (go_at_call 70; refine (eat4_any _ (by unfold maxLen; omega) _).mono ?_; rintro e w4 ⟨rfl, hb4⟩; replace hr := hr.trans (hb4.mono hr.size); clear hb4))
      refine bodyPost_ret (results_tmp2 rfl _ _ _) rfl ⟨fieldsIs_bad Hf.out _, hb.trans (hr.mono hb.size)⟩
    have h58' : ((S[eatL 4 S.toList].toNat : Int) != 58) = false := by rw [h58]; rfl
    have H58 := Lib.hid h58
    clear h58
    have hzf : (S.extract (eatL 4 S.toList + 1) S.size).size ≤ 1048576 := size_from hS
    have hzt : (trimL (S.extract (eatL 4 S.toList + 1) S.size).toList).length ≤ 1048576 := Nat.le_trans (trimL_le _) (by rw [len_toL]; exact hzf)
    have hzo : (S.extract 0 (eatL 4 S.toList)).size ≤ 1048576 := size_to hS
    cases hv : allL (trimL (S.toList.drop (eatL 4 S.toList + 1))) 0 8192 6
    case false =>
      have Hf := Lib.hid (rel_400 he Hd.out h32' (by rw [Hok.out, hv]; simp))
      have Hv := Lib.hid hv
      clear hv
      go_wp2_with (first | (go_at_call 70; refine (eat4_any _ (by unfold maxLen; omega) _).mono ?_; rintro e w4 ⟨rfl, hb4⟩; replace hr := hr.trans (hb4.mono hr.size); clear hb4) | (go_at_call 73; refine (trim_any _ (by unfold maxLen; omega) _).mono ?_; rintro e w4 ⟨rfl, hb4⟩; replace hr := hr.trans (hb4.mono hr.size); clear hb4) | (go_at_call 71; refine (allV_any _ (by rw [size_ofL]; unfold maxLen; omega) _).mono ?_; rintro e w4 ⟨rfl, hb4⟩; replace hr := hr.trans (hb4.mono hr.size); clear hb4; rw [toL_ofL, Htr.out, Hv.out]))
      refine bodyPost_ret (results_tmp2 rfl _ _ _) rfl ⟨fieldsIs_bad Hf.out _, hb.trans (hr.mono hb.size)⟩
    have Hf := rel_step he Hd.out h32' (by rw [Hok.out, hv, H58.out]; simp)
    have Hv := Lib.hid hv
    have Hfo : Hid (fieldOf s = (lowL (S.extract 0 (eatL 4 S.toList)).toList, trimL (S.extract (eatL 4 S.toList + 1) S.size).toList)) := by
      show _ = _; unfold fieldOf; rw [← Hs.out, Hto.out, Htr.out]
    clear hv
    have hw1 : IntKind.i64.wrap ((eatL 4 S.toList : Int) + 1) = (eatL 4 S.toList : Int) + 1 := IntWalk.i64_in _ (by omega)
    have hw2 : 0 ≤ (eatL 4 S.toList : Int) + 1 := by omega
    have hw3 : ((eatL 4 S.toList : Int) + 1).toNat = eatL 4 S.toList + 1 := by omega
    have hw4 : (eatL 4 S.toList : Int) + 1 ≤ S.size := by omega
    go_wp2_with (first | (go_at_call 70; refine (eat4_any _ (by unfold maxLen; omega) _).mono ?_; rintro e w4 ⟨rfl, hb4⟩; replace hr := hr.trans (hb4.mono hr.size); clear hb4) | (go_at_call 73; refine (trim_any _ (by unfold maxLen; omega) _).mono ?_; rintro e w4 ⟨rfl, hb4⟩; replace hr := hr.trans (hb4.mono hr.size); clear hb4) | (go_at_call 71; refine (allV_any _ (by rw [size_ofL]; unfold maxLen; omega) _).mono ?_; rintro e w4 ⟨rfl, hb4⟩; replace hr := hr.trans (hb4.mono hr.size); clear hb4; rw [toL_ofL, Htr.out, Hv.out]))
    clear hc
    have hzo' : (S.extract 0 (eatL 4 S.toList)).size ≤ maxLen := by unfold maxLen; omega
    have hzf' : (S.extract (eatL 4 S.toList + 1) S.size).size ≤ maxLen := by unfold maxLen; omega
    go_region_held3 (fun w' => True) (trivial) (first | (go_at_call 73; refine (trim_any _ hzf' _).mono ?_; rintro e w5 ⟨rfl, hb5⟩) | (go_at_call 74; refine (small_any _ hzo' _).mono ?_; rintro e w6 ⟨rfl, hb6⟩) | (refine step_push (by rfl) _ _ _ (by rfl) w.heap.size rowH _ _ _ (by rfl) (own_below hown ((hr.drew.next hb6).next hb5)) [.string (ofL (lowL (S.extract 0 (eatL 4 S.toList)).toList)), .string (ofL (trimL (S.extract (eatL 4 S.toList + 1) S.size).toList))] _ (by rfl) (by simp) rfl (oneCell_pair _ _) (by omega) (Nat.le_trans hb.size ((hr.drew.next hb6).next hb5).size) ?_; intro v' w7 hown7 _ hb7 _))
    clear hown hwk hw1 hw2 hw3 hw4
    go_wp2
    go_roundw
    case rel => exact ⟨k + 1, done ++ [fieldOf s], by omega, by omega, by go_num, by show _ = _; simp [Hdk.out], Hf, by rw [pairs_snoc, Hfo.out]; simpa using hown7, (hb.trans (((hr.drew.next hb6).next hb5).mono hb.size)).trans hb7⟩
    case measure => simp [intOf]; omega
end Go.Proofs.YtmhgnaemafohfaaGreatDoor

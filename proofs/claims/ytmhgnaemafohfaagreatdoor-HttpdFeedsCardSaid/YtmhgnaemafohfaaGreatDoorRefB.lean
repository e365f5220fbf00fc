/- The reference's functions on texts, more (blotterref08): small, trim, number, hex. Conditions: none. -/
import Derived.Test.YtmhgnaemafohfaaGreatDoorRefA
namespace Go.Proofs.YtmhgnaemafohfaaGreatDoor
open Go.RowKit
set_option linter.unusedVariables false
set_option linter.unusedSimpArgs false
set_option maxRecDepth 100000

def lowB (c : UInt8) : UInt8 := if isB 2 c then c + 32 else c
def lowL (l : B) : B := l.map lowB
theorem big_lt {c : UInt8} (h : isB 2 c = true) : 65 ≤ (c.toNat : Int) ∧ (c.toNat : Int) ≤ 90 := by simpa [isB, inB] using h
theorem add32 {c : UInt8} (h : isB 2 c = true) : UInt8.ofNat ((c.toNat : Int) + 32).toNat = c + 32 := by
  have := big_lt h
  apply UInt8.toNat.inj
  rw [UInt8.toNat_add]
  simp
  omega
theorem small_any (s : ByteArray) (hs : s.size ≤ maxLen) (w : World) :
    Calls Tryz.prog 74 #[.string s] w fun e w' => e = .returned (.string (ofL (lowL s.toList))) ∧ Below w.heap.size w w' := by
  unfold maxLen at hs
  go_enter Tryz.func74, Tryz.ntmps74
  go_wp2
  go_loopw [3, 8] (fun o i wr => ∃ k : Nat, k ≤ s.size ∧ i = .int .i64 k ∧ o = .string (ofL (lowL (s.toList.take k))) ∧ Below w.heap.size w wr) (fun _ i _ => s.size - (intOf i).toNat)
  case atStart => exact ⟨0, Nat.zero_le _, rfl, rfl, Below.refl _ _⟩
  case round =>
    obtain ⟨k, hk, rfl, rfl, hb⟩ := hrel
    by_cases hlt : k < s.size
    · have Ht := Lib.hid (take_eq s k hlt)
      have hz1 : (ofL (lowL (s.toList.take k))).size ≤ k := by rw [size_ofL]; simp [lowL]; omega
      cases hp : isB 2 s[k]
      · have hz2 : (ofL [s[k]]).size ≤ 1 := by rw [size_ofL]; simp
        have kc := fun wx => conv_one 22 9 5 Tryz.underlying22 Tryz.underlying5 Tryz.underlying9 s[k] wx
        have Hp := Lib.hid hp
        clear hp
        go_wp2_with (go_at_call 72; refine (is_any 2 (by decide) (by decide) _ _).mono ?_; rintro e w' ⟨rfl, hb'⟩; rw [Hp.out])
        go_roundw
        case rel => exact ⟨k + 1, by omega, by go_num, by rw [Ht.out]; unfold lowL; rw [List.map_append, ofL_append]; simp [lowB, Hp.out], (hb.trans (hb'.mono hb.size)).alloc (Nat.le_trans hb.size hb'.size) _⟩
        case measure => simp [intOf]; omega
      · have hbig := big_lt hp
        obtain ⟨hb1, hb2⟩ := hbig
        have kc := fun wx => conv_int 22 9 5 Tryz.underlying22 Tryz.underlying5 Tryz.underlying9 ((s[k].toNat : Int) + 32) (by omega) (by omega) wx
        rw [add32 hp] at kc
        have hz2 : (ofL [s[k] + 32]).size ≤ 1 := by rw [size_ofL]; simp
        have Hp := Lib.hid hp
        clear hp
        go_wp2_with (go_at_call 72; refine (is_any 2 (by decide) (by decide) _ _).mono ?_; rintro e w' ⟨rfl, hb'⟩; rw [Hp.out])
        go_roundw
        case rel => exact ⟨k + 1, by omega, by go_num, by rw [Ht.out]; unfold lowL; rw [List.map_append, ofL_append]; simp [lowB, Hp.out], (hb.trans (hb'.mono hb.size)).alloc (Nat.le_trans hb.size hb'.size) _⟩
        case measure => simp [intOf]; omega
    · go_wp2
      go_ret
      exact ⟨ret_str (by rw [List.take_of_length_le (by rw [len_toL]; omega)]), hb⟩

/-- A text without spaces at its ends. -/
def lastN (l : B) : Nat := (l.reverse.dropWhile (isB 5)).length
def trimL (l : B) : B := (l.drop (eatL 5 l)).take (lastN (l.drop (eatL 5 l)))
theorem lastN_snoc (l : B) (c : UInt8) : lastN (l ++ [c]) = if isB 5 c then lastN l else l.length + 1 := by
  unfold lastN; rw [List.reverse_append]; simp only [List.reverse_cons, List.reverse_nil, List.nil_append, List.singleton_append, List.dropWhile_cons]
  split <;> simp
theorem lastN_le (l : B) : lastN l ≤ l.length := by
  unfold lastN; have := (List.dropWhile_sublist (isB 5) (l := l.reverse)).length_le; simpa using this
theorem trim_any (s : ByteArray) (hs : s.size ≤ maxLen) (w : World) :
    Calls Tryz.prog 73 #[.string s] w fun e w' => e = .returned (.string (ofL (trimL s.toList))) ∧ Below w.heap.size w w' := by
  unfold maxLen at hs
  have he := eatL_le 5 s.toList
  rw [len_toL] at he
  go_enter Tryz.func73, Tryz.ntmps73
  go_wp2_with (go_at_call 70; refine (eat_any 5 (by decide) (by decide) _ hs _).mono ?_; rintro e w1 ⟨rfl, hb1⟩)
  have hT := toL_from s (eatL 5 s.toList)
  have hts : (s.extract (eatL 5 s.toList) s.size).size ≤ s.size := by rw [ByteArray.size_extract]; omega
  have hsz : s.size - eatL 5 s.toList = (s.extract (eatL 5 s.toList) s.size).size := by rw [ByteArray.size_extract]; omega
  rw [hsz]
  clear hsz
  have HT := Lib.hid hT
  clear hT
  generalize s.extract (eatL 5 s.toList) s.size = t at HT hts ⊢
  go_loopw [3, 11] (fun n i wr => ∃ k : Nat, k ≤ t.size ∧ i = .int .i64 k ∧ n = .int .i64 (lastN (t.toList.take k)) ∧ Below w.heap.size w wr) (fun _ i _ => t.size - (intOf i).toNat)
  case atStart => exact ⟨0, Nat.zero_le _, rfl, rfl, hb1⟩
  case round =>
    obtain ⟨k, hk, rfl, rfl, hb⟩ := hrel
    by_cases hlt : k < t.size
    · have Ht := Lib.hid (take_eq t k hlt)
      cases hp : isB 5 t[k]
      all_goals
        have Hp := Lib.hid hp
        clear hp
        go_wp2_with (go_at_call 72; refine (is_any 5 (by decide) (by decide) _ _).mono ?_; rintro e w' ⟨rfl, hb'⟩; rw [Hp.out])
        go_roundw
        case rel => exact ⟨k + 1, by omega, by go_num, by rw [Ht.out, lastN_snoc, Hp.out]; simp [List.length_take, len_toL]; try omega, hb.trans (hb'.mono hb.size)⟩
        case measure => simp [intOf]; omega
    · have hl := lastN_le (t.toList.take k)
      have hl2 : (t.toList.take k).length ≤ t.size := by rw [List.length_take, len_toL]; omega
      have hl3 : lastN (t.toList.take k) ≤ t.size := Nat.le_trans hl hl2
      clear hl hl2
      go_wp2
      go_ret
      exact ⟨ret_strL (by rw [toL_to, List.take_of_length_le (by rw [len_toL]; omega : t.toList.length ≤ k), HT.out]; rfl), hb⟩

/-- A number of 1 to 9 figures. -/
def numF (l : B) : Nat := l.foldl (fun n c => 10 * n + (c.toNat - 48)) 0
def numL (l : B) : Int := if allL l 1 9 1 then (numF l : Int) else -1
theorem numF_snoc (l : B) (c : UInt8) : numF (l ++ [c]) = 10 * numF l + (c.toNat - 48) := by simp [numF]
theorem numF_lt : ∀ (n : Nat) (l : B), l.length = n → l.all (isB 1) = true → numF l < 10 ^ n
  | 0, l, h, _ => by obtain rfl := List.eq_nil_of_length_eq_zero h; decide
  | n + 1, l, h, ha => by
    rcases List.eq_nil_or_concat l with rfl | ⟨l', c, rfl⟩
    · simp at h
    · rw [List.concat_eq_append] at *
      have h1 : l'.length = n := by simpa using h
      rw [List.all_append] at ha
      have ha' : l'.all (isB 1) = true ∧ isB 1 c = true := by simpa using ha
      have ih := numF_lt n l' h1 ha'.1
      have hc : (48:Int) ≤ c.toNat ∧ (c.toNat:Int) ≤ 57 := by simpa [isB, inB] using ha'.2
      rw [numF_snoc, Nat.pow_succ]; omega
theorem numL_lt {l : B} (h : allL l 1 9 1 = true) : numF l < 1000000000 := by
  unfold allL at h
  simp only [Bool.and_eq_true, decide_eq_true_eq] at h
  exact Nat.lt_of_lt_of_le (numF_lt _ l rfl h.1.1) (Nat.pow_le_pow_right (by decide) h.2)
theorem number_any (s : ByteArray) (hs : s.size ≤ maxLen) (w : World) :
    Calls Tryz.prog 77 #[.string s] w fun e w' => e = .returned (.int .i64 (numL s.toList)) ∧ Below w.heap.size w w' := by
  unfold maxLen at hs
  cases ha : allL s.toList 1 9 1
  · have Ha := Lib.hid ha
    clear ha
    go_enter Tryz.func77, Tryz.ntmps77
    go_wp2_with (go_at_call 71; refine (all_any 1 (by decide) (by decide) 1 9 _ hs _).mono ?_; rintro e w1 ⟨rfl, hb1⟩; rw [Ha.out])
    go_ret
    exact ⟨ret_int (by simp [numL, Ha.out]), hb1⟩
  · have Ha := Lib.hid ha
    clear ha
    have hsz : s.size ≤ 9 := by have := Ha.out; unfold allL at this; simp only [Bool.and_eq_true, decide_eq_true_eq, len_toL] at this; exact this.2
    have hall : ∀ c, c ∈ s.toList → isB 1 c = true := by have := Ha.out; unfold allL at this; simp only [Bool.and_eq_true] at this; exact List.all_eq_true.1 this.1.1
    have Hall := Lib.hid hall
    clear hall
    go_enter Tryz.func77, Tryz.ntmps77
    go_wp2_with (go_at_call 71; refine (all_any 1 (by decide) (by decide) 1 9 _ hs _).mono ?_; rintro e w1 ⟨rfl, hb1⟩; rw [Ha.out])
    go_loop [3, 10] (fun n i => ∃ k : Nat, k ≤ s.size ∧ i = .int .i64 k ∧ n = .int .i64 (numF (s.toList.take k))) (fun _ i => s.size - (intOf i).toNat)
    case atStart => exact ⟨0, Nat.zero_le _, rfl, rfl⟩
    case round =>
      obtain ⟨k, hk, rfl, rfl⟩ := hrel
      by_cases hlt : k < s.size
      · have Ht := Lib.hid (take_eq s k hlt)
        have hc : 48 ≤ (s[k].toNat : Int) ∧ (s[k].toNat : Int) ≤ 57 := by
          have h := Hall.out s[k] (by have := List.mem_of_getElem? (get_eq s k hlt); exact this)
          simpa [isB, inB] using h
        obtain ⟨hc1, hc2⟩ := hc
        have hn : numF (s.toList.take k) < 1000000000 := by
          refine Nat.lt_of_lt_of_le (numF_lt k _ (by rw [List.length_take, len_toL]; omega) ?_) (Nat.le_trans (Nat.pow_le_pow_right (by decide) (by omega : k ≤ 9)) (by decide))
          exact List.all_eq_true.2 fun c hc => Hall.out c (List.mem_of_mem_take hc)
        go_wp2
        go_round
        case rel => exact ⟨k + 1, by omega, by go_num, by rw [Ht.out, numF_snoc]; go_num⟩
        case measure => simp [intOf]; omega
      · go_wp2
        go_ret
        exact ⟨ret_int (by rw [List.take_of_length_le (by rw [len_toL]; omega)]; simp [numL, Ha.out]), hb1⟩

/-- A hexadecimal figure's number; 16: it is none. -/
def hexL : B := [48, 49, 50, 51, 52, 53, 54, 55, 56, 57, 97, 98, 99, 100, 101, 102]
def hexN (c : UInt8) : Nat := whereL [lowB c] hexL
theorem hex_any (c : UInt8) (w : World) :
    Calls Tryz.prog 95 #[.int .u8 c.toNat] w fun e w' => e = .returned (.int .i64 (hexN c)) ∧ Below w.heap.size w w' := by
  have kc := conv_one 22 9 5 Tryz.underlying22 Tryz.underlying5 Tryz.underlying9 c w
  have Hl := Lib.hid (show lowL (ofL [c]).toList = [lowB c] by rw [toL_ofL]; rfl)
  go_enter Tryz.func95, Tryz.ntmps95
  go_wp2_with (first | (go_at_call 74; refine (small_any _ (by rw [size_ofL]; unfold maxLen; simp) _).mono ?_; rintro e w1 ⟨rfl, hb1⟩; rw [Hl.out]) | (go_at_call 42; refine (where_any _ _ (by decide) _).mono ?_; rintro e w' ⟨rfl, rfl⟩))
  go_ret
  exact ⟨ret_int (by rw [toL_ofL]; rfl), ((Below.refl _ _).alloc (Nat.le_refl _) _).trans (hb1.mono (by simp))⟩
end Go.Proofs.YtmhgnaemafohfaaGreatDoor

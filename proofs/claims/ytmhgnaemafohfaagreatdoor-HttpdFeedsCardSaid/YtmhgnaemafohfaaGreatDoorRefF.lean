/- The reference's Chunks (blotterref08): a body in chunks. Conditions: the text is short. -/
import Derived.Test.YtmhgnaemafohfaaGreatDoorRefE
namespace Go.Proofs.YtmhgnaemafohfaaGreatDoor
open Go.RowKit
set_option linter.unusedVariables false
set_option linter.unusedSimpArgs false
set_option maxRecDepth 100000

def isHex (c : UInt8) : Bool := decide (hexN c < 16)
def digitsN (l : B) : Nat := (l.takeWhile isHex).length
def hexF (l : B) : Nat := l.foldl (fun n c => 16 * n + hexN c) 0
theorem hexF_snoc (l : B) (c : UInt8) : hexF (l ++ [c]) = 16 * hexF l + hexN c := by simp [hexF]
theorem hexF_lt : ∀ (n : Nat) (l : B), l.length = n → l.all isHex = true → hexF l < 16 ^ n
  | 0, l, h, _ => by obtain rfl := List.eq_nil_of_length_eq_zero h; decide
  | n + 1, l, h, ha => by
    rcases List.eq_nil_or_concat l with rfl | ⟨l', c, rfl⟩
    · simp at h
    · rw [List.concat_eq_append] at *
      have h1 : l'.length = n := by simpa using h
      rw [List.all_append] at ha
      have ha' : l'.all isHex = true ∧ isHex c = true := by simpa using ha
      have ih := hexF_lt n l' h1 ha'.1
      have hc : hexN c < 16 := by simpa [isHex] using ha'.2
      rw [hexF_snoc, Nat.pow_succ]; omega
theorem takeWhile_all : ∀ l : B, (l.takeWhile isHex).all isHex = true
  | [] => rfl
  | c :: l => by rw [List.takeWhile_cons]; split; (rename_i h; rw [List.all_cons, h, takeWhile_all l]; rfl); rfl
theorem digits_take (l : B) : (l.take (digitsN l)).all isHex = true := by
  unfold digitsN
  have h : l.take (l.takeWhile isHex).length = l.takeWhile isHex := by
    have := List.takeWhile_prefix isHex (l := l); exact (List.prefix_iff_eq_take.1 this).symm
  rw [h]; exact takeWhile_all l
theorem digits_le (l : B) : digitsN l ≤ l.length := (List.takeWhile_sublist _).length_le
theorem digits_in : ∀ (l : B) (j : Nat), j < digitsN l → ∃ c, l[j]? = some c ∧ isHex c = true
  | [], j, h => by simp [digitsN] at h
  | c :: l, j, h => by
    unfold digitsN at h; rw [List.takeWhile_cons] at h
    by_cases hc : isHex c = true
    · rw [if_pos hc] at h
      cases j with
      | zero => exact ⟨c, rfl, hc⟩
      | succ j => obtain ⟨d, h1, h2⟩ := digits_in l j (by unfold digitsN; simpa using h); exact ⟨d, by simpa using h1, h2⟩
    · rw [if_neg hc] at h; simp at h
theorem digits_out : ∀ (l : B) (c : UInt8), l[digitsN l]? = some c → isHex c = false
  | [], c, h => by simp at h
  | d :: l, c, h => by
    unfold digitsN at h; rw [List.takeWhile_cons] at h
    by_cases hd : isHex d = true
    · rw [if_pos hd] at h; exact digits_out l c (by unfold digitsN; simpa using h)
    · rw [if_neg hd] at h; simp at h; subst h; simpa using hd

/-- A body in chunks: its bytes, the place behind it, the status. -/
def chunkL (acc : B) (p : Nat) (l : B) : B × Nat × Nat :=
  if 8 < digitsN l then ([], 0, 400)
  else if digitsN l < l.length ∧ digitsN l = 0 then ([], 0, 400)
  else if endsL (l.drop (digitsN l)) ≠ 0 then ([], 0, endsL (l.drop (digitsN l)))
  else if 32768 - acc.length < hexF (l.take (digitsN l)) then ([], 0, 413)
  else if l.length - (digitsN l + 2) < hexF (l.take (digitsN l)) then ([], 0, 1)
  else if endsL (l.drop (digitsN l + 2 + hexF (l.take (digitsN l)))) ≠ 0 then ([], 0, endsL (l.drop (digitsN l + 2 + hexF (l.take (digitsN l)))))
  else if hexF (l.take (digitsN l)) = 0 then (acc, p + (digitsN l + 4), 0)
  else if h : l.length < digitsN l + 4 + hexF (l.take (digitsN l)) then ([], 0, 0)
  else chunkL (acc ++ (l.drop (digitsN l + 2)).take (hexF (l.take (digitsN l)))) (p + (digitsN l + 4 + hexF (l.take (digitsN l)))) (l.drop (digitsN l + 4 + hexF (l.take (digitsN l))))
termination_by l.length
decreasing_by simp; omega
theorem ends0 : ∀ {l : B}, endsL l = 0 → 2 ≤ l.length
  | [], h => by simp [endsL] at h
  | [c], h => by simp only [endsL, ends1] at h; split at h <;> omega
  | c :: d :: l, h => by simp
theorem endsL_le (l : B) : endsL l = 0 ∨ endsL l = 1 ∨ endsL l = 400 := by
  cases l with
  | nil => simp [endsL]
  | cons c l => cases l with
    | nil => simp only [endsL, ends1]; split <;> simp
    | cons d l => simp only [endsL, ends1]; split <;> (try split) <;> simp
def bytesOwn (base : Nat) (p : B × Nat × Nat) (e : Ending) (w' : World) : Prop :=
  ∃ v, e = .returned (.tuple #[v, .int .i64 p.2.1, .int .i64 p.2.2]) ∧ Rd w' 1 v p.1.length (bytesV p.1)
theorem bytesOwn_nil {base n : Nat} {p : B × Nat × Nat} (h : p = ([], 0, n)) (w' : World) : bytesOwn base p (.returned (.tuple #[.slice none 0 0, .int .i64 0, .int .i64 n])) w' := by
  subst h; exact ⟨_, rfl, rfl, _, _, rfl, Nat.le_refl _, by decide, fun _ => rfl, fun a ha => by cases ha⟩
theorem ends_at (a : Nat) (x : Int) (hx : x = (a : Int)) (s : ByteArray) (hs : s.size ≤ 1048576) (ha : a ≤ 2097152) (w : World) :
    Calls Tryz.prog 96 #[.string s, .int .i64 x] w fun e w' => e = .returned (.tuple #[.int .i64 0, .int .i64 (endsL (s.toList.drop a))]) ∧ Below w.heap.size w w' := by
  subst hx; exact ends_any a s hs ha w
theorem ret_vii {v : Value} {a b c d : Int} (h1 : a = c) (h2 : b = d) : Ending.returned (.tuple #[v, .int .i64 a, .int .i64 b]) = .returned (.tuple #[v, .int .i64 c, .int .i64 d]) := by rw [h1, h2]
def ChRel (s acc : B) (p : Nat) : Prop := chunkL [] 0 s = chunkL acc p (s.drop p)
theorem drop_at {s : ByteArray} {p j : Nat} {c : UInt8} (h : (s.toList.drop p)[j]? = some c) : ∃ h' : p + j < s.size, s[p + j] = c := by
  rw [List.getElem?_drop] at h
  have hlt := (List.getElem?_eq_some_iff.1 h).1
  rw [len_toL] at hlt
  rw [get_eq s _ hlt] at h
  exact ⟨hlt, Option.some.inj h⟩
set_option maxHeartbeats 4000000 in
theorem chunks_any (s : ByteArray) (hs : s.size ≤ 1048576) (w : World) :
    Calls Tryz.prog 76 #[.string s] w fun e w' => bytesOwn w.heap.size (chunkL [] 0 s.toList) e w' ∧ Below w.heap.size w w' := by
  have Hl := Lib.hid (len_toL s)
  go_enter Tryz.func76, Tryz.ntmps76
  go_wp2
  go_loopw [5, 6] (fun bd at_ wr => ∃ (acc : B) (p : Nat), p ≤ s.size ∧ acc.length ≤ 32768 ∧ at_ = .int .i64 p ∧ ChRel s.toList acc p ∧ wr.ownsRow w.heap.size 5 1 bd acc.length (bytesV acc) ∧ Below w.heap.size w wr) (fun _ at_ _ => s.size - (intOf at_).toNat)
  case atStart => exact ⟨[], 0, Nat.zero_le _, by simp, rfl, rfl, World.ownsRow_nil _ _ _ _, Below.refl _ _⟩
  case round =>
    obtain ⟨acc, p, hp, hacc, rfl, he, hown, hb⟩ := hrel
    obtain ⟨wo, rfl⟩ : ∃ wo : World, wo = wr := ⟨_, rfl⟩
    obtain ⟨bA, bc, rfl⟩ := (rd_of_own hown).shape
    have hJ := digits_le (s.toList.drop p)
    rw [List.length_drop, len_toL] at hJ
    have Hin := Lib.hid (digits_in (s.toList.drop p))
    have Hout := Lib.hid (digits_out (s.toList.drop p))
    have HT := Lib.hid (digits_take (s.toList.drop p))
    have He := Lib.hid he
    have hr := Below.refl wo.heap.size wo
    clear he
    generalize hJJ : digitsN (s.toList.drop p) = J at hJ Hin Hout HT
    have HJJ := Lib.hid hJJ
    clear hJJ
    go_wp2
    go_loopw [6, 7, 8] (fun at_ n m wr => ∃ j : Nat, j ≤ J ∧ j ≤ 8 ∧ at_ = .int .i64 ((p + j : Nat) : Int) ∧ n = .int .i64 (hexF ((s.toList.drop p).take j)) ∧ m = .int .i64 j ∧ Below wo.heap.size wo wr) (fun at_ _ _ _ => s.size - (intOf at_).toNat)
    case atStart => exact ⟨0, Nat.zero_le _, Nat.zero_le _, rfl, rfl, rfl, hr⟩
    case round =>
      clear hr
      obtain ⟨j, hj, hj8, rfl, rfl, rfl, hr⟩ := hrel
      by_cases hlt : j < J
      · obtain ⟨c, hc1, hc2⟩ := Hin.out j hlt
        obtain ⟨hps, hcc⟩ := drop_at hc1
        have Ht := Lib.hid (take_snoc' hc1)
        have hh : hexN c < 16 := by simpa [isHex] using hc2
        have hn : hexF ((s.toList.drop p).take j) < 4294967296 := by
          refine Nat.lt_of_lt_of_le (hexF_lt j _ (by rw [List.length_take, List.length_drop, len_toL]; omega) ?_) (Nat.le_trans (Nat.pow_le_pow_right (by decide) hj8) (by decide))
          refine List.all_eq_true.2 fun d hd => List.all_eq_true.1 HT.out d ?_
          have : (s.toList.drop p).take j = ((s.toList.drop p).take J).take j := by rw [List.take_take]; congr 1; omega
          rw [this] at hd; exact List.mem_of_mem_take hd
        subst hcc
        clear hc1 hc2
        have hcast : ((p + j : Nat) : Int) = (p : Int) + j := by omega
        go_wp2_with (first | (go_at_call 95; refine (hex_any _ _).mono ?_; rintro e w4 ⟨rfl, hb4⟩; replace hr := hr.next hb4; clear hb4))
        · have h8 : 8 < J := by omega
          go_ret3
          exact ⟨bytesOwn_nil (by rw [He.out, chunkL, HJJ.out, if_pos h8]) _, hb.trans (hr.mono hb.size)⟩
        · go_roundw
          case rel => exact ⟨j + 1, by omega, by omega, by go_num, by rw [Ht.out, hexF_snoc]; go_num, by go_num, hr⟩
          case measure => simp [intOf]; omega
      · have hjJ : j = J := by omega
        subst hjJ
        have h8 : ¬ 8 < j := by omega
        have hN : hexF ((s.toList.drop p).take j) < 4294967296 :=
          Nat.lt_of_lt_of_le (hexF_lt j _ (by rw [List.length_take, List.length_drop, len_toL]; omega) HT.out) (Nat.le_trans (Nat.pow_le_pow_right (by decide) hj8) (by decide))
        have Hll := Lib.hid (show (s.toList.drop p).length = s.size - p by rw [List.length_drop, len_toL])
        have Hdd := Lib.hid (fun a => (List.drop_drop : (s.toList.drop p).drop a = s.toList.drop (p + a)))
        generalize hNN : hexF ((s.toList.drop p).take j) = N at hN ⊢
        have HNN := Lib.hid hNN
        clear hNN Hin
        have hcast : ((p + j : Nat) : Int) = (p : Int) + j := by omega
        by_cases hend : p + j < s.size
        case neg =>
          have hpe : p + j = s.size := by omega
          have Hpe := Lib.hid hpe
          have H1 := Lib.hid (show endsL (s.toList.drop (p + j)) = 1 by rw [hpe, List.drop_of_length_le (by rw [len_toL]; exact Nat.le_refl _)]; rfl)
          have hge : ((s.size : Int) ≤ (p : Int) + j) := by omega
          clear hpe
          go_wp2_with (first | (go_at_call 96; refine (ends_at (p + j) _ ?_ s hs ?_ _).mono ?_; (focus omega); (focus omega); rintro e w4 ⟨rfl, hb4⟩; replace hr := hr.next hb4; clear hb4; rw [H1.out]))
          go_ret3
          exact ⟨bytesOwn_nil (by rw [He.out, chunkL, HJJ.out, if_neg h8, if_neg (by rw [Hll.out]; have := Hpe.out; omega), Hdd.out, H1.out]; simp) _, hb.trans (hr.mono hb.size)⟩
        have hnh : ¬ hexN s[p + j] < 16 := by
          have h := Hout.out s[p + j] (by rw [List.getElem?_drop, get_eq s _ hend])
          simpa [isHex] using h
        have hlt1 : (p : Int) + j < s.size := by omega
        by_cases hj0 : j = 0
        case pos =>
          subst hj0
          have hp0 : p < s.size := by omega
          have hnh0 : ¬ hexN s[p] < 16 := hnh
          have hp1 : (p : Int) < s.size := by omega
          clear hnh hlt1 hend
          go_wp2_with (first | (go_at_call 95; refine (hex_any _ _).mono ?_; rintro e w4 ⟨rfl, hb4⟩; replace hr := hr.next hb4; clear hb4) | (go_at_call 96; refine (ends_at (p + j) _ ?_ s hs ?_ _).mono ?_; (focus omega); (focus omega); rintro e w4 ⟨rfl, hb4⟩; replace hr := hr.next hb4; clear hb4; rw [H1.out]))
          go_ret3
          exact ⟨bytesOwn_nil (by rw [He.out, chunkL, HJJ.out, if_neg h8, if_pos (by rw [Hll.out]; exact ⟨by omega, rfl⟩)]) _, hb.trans (hr.mono hb.size)⟩
        have hj1 : ((j : Int) == 0) = false := by simp; omega
        have Hc1 : Hid (chunkL [] 0 s.toList = if endsL (s.toList.drop (p + j)) ≠ 0 then ([], 0, endsL (s.toList.drop (p + j)))
            else if 32768 - acc.length < N then ([], 0, 413)
            else if s.size - p - (j + 2) < N then ([], 0, 1)
            else if endsL (s.toList.drop (p + (j + 2 + N))) ≠ 0 then ([], 0, endsL (s.toList.drop (p + (j + 2 + N))))
            else if N = 0 then (acc, p + (j + 4), 0)
            else if h : s.size - p < j + 4 + N then ([], 0, 0)
            else chunkL (acc ++ (s.toList.drop (p + (j + 2))).take N) (p + (j + 4 + N)) (s.toList.drop (p + (j + 4 + N)))) := by
          show _ = _
          rw [He.out, chunkL, HJJ.out, if_neg h8, if_neg (by omega)]
          simp only [Hdd.out, HNN.out, Hll.out]
        clear hj0
        rcases endsL_le (s.toList.drop (p + j)) with h1 | h1 | h1
        case inr.inl =>
          have H1 := Lib.hid h1
          clear h1
          go_wp2_with (first | (go_at_call 95; refine (hex_any _ _).mono ?_; rintro e w4 ⟨rfl, hb4⟩; replace hr := hr.next hb4; clear hb4) | (go_at_call 96; refine (ends_at (p + j) _ ?_ s hs ?_ _).mono ?_; (focus omega); (focus omega); rintro e w4 ⟨rfl, hb4⟩; replace hr := hr.next hb4; clear hb4; rw [H1.out]))
          go_ret3
          exact ⟨bytesOwn_nil (by rw [Hc1.out, H1.out]; rfl) _, hb.trans (hr.mono hb.size)⟩
        case inr.inr =>
          have H1 := Lib.hid h1
          clear h1
          go_wp2_with (first | (go_at_call 95; refine (hex_any _ _).mono ?_; rintro e w4 ⟨rfl, hb4⟩; replace hr := hr.next hb4; clear hb4) | (go_at_call 96; refine (ends_at (p + j) _ ?_ s hs ?_ _).mono ?_; (focus omega); (focus omega); rintro e w4 ⟨rfl, hb4⟩; replace hr := hr.next hb4; clear hb4; rw [H1.out]))
          go_ret3
          exact ⟨bytesOwn_nil (by rw [Hc1.out, H1.out]; rfl) _, hb.trans (hr.mono hb.size)⟩
        have hsz := ends0 h1
        rw [List.length_drop, len_toL] at hsz
        have H1 := Lib.hid h1
        clear h1
        by_cases h413 : 32768 - acc.length < N
        case pos =>
          go_wp2_with (first | (go_at_call 95; refine (hex_any _ _).mono ?_; rintro e w4 ⟨rfl, hb4⟩; replace hr := hr.next hb4; clear hb4) | (go_at_call 96; refine (ends_at (p + j) _ ?_ s hs ?_ _).mono ?_; (focus omega); (focus omega); rintro e w4 ⟨rfl, hb4⟩; replace hr := hr.next hb4; clear hb4; rw [H1.out]))
          go_ret3
          exact ⟨bytesOwn_nil (by rw [Hc1.out, H1.out, if_neg (by simp), if_pos h413]) _, hb.trans (hr.mono hb.size)⟩
        by_cases hsh : s.size - p - (j + 2) < N
        case pos =>
          go_wp2_with (first | (go_at_call 95; refine (hex_any _ _).mono ?_; rintro e w4 ⟨rfl, hb4⟩; replace hr := hr.next hb4; clear hb4) | (go_at_call 96; refine (ends_at (p + j) _ ?_ s hs ?_ _).mono ?_; (focus omega); (focus omega); rintro e w4 ⟨rfl, hb4⟩; replace hr := hr.next hb4; clear hb4; rw [H1.out]))
          go_ret3
          exact ⟨bytesOwn_nil (by rw [Hc1.out, H1.out, if_neg (by simp), if_neg h413, if_pos hsh]) _, hb.trans (hr.mono hb.size)⟩
        have hend2 : p + j + 2 + N ≤ s.size := by omega
        have Hx := Lib.hid (show (s.extract (p + j + 2) (p + j + 2 + N)).toList = (s.toList.drop (p + (j + 2))).take N by
          rw [toL_extract, List.drop_take]; congr 1; omega)
        have hxs : (s.extract (p + j + 2) (p + j + 2 + N)).size ≤ 32768 := by rw [ByteArray.size_extract]; omega
        have hxn : (s.extract (p + j + 2) (p + j + 2 + N)).size = N := by rw [ByteArray.size_extract]; omega
        have Hxn := Lib.hid hxn
        clear hxn
        rcases endsL_le (s.toList.drop (p + (j + 2 + N))) with h2 | h2 | h2
        case inr.inl =>
          have H2 := Lib.hid h2
          clear h2
          go_wp2_with (first | (go_at_call 95; refine (hex_any _ _).mono ?_; rintro e w4 ⟨rfl, hb4⟩; replace hr := hr.next hb4; clear hb4) | (go_at_call 96; refine (ends_at (p + j) _ ?_ s hs ?_ _).mono ?_; (focus omega); (focus omega); rintro e w4 ⟨rfl, hb4⟩; replace hr := hr.next hb4; clear hb4; rw [H1.out]) | (go_at_call 96; refine (ends_at (p + (j + 2 + N)) _ ?_ s hs ?_ _).mono ?_; (focus omega); (focus omega); rintro e w4 ⟨rfl, hb4⟩; replace hr := hr.next hb4; clear hb4; rw [H2.out]) | (at_builtin; refine wpList_pushStr _ rfl _ _ 22 9 rfl w.heap.size rowB Tryz.underlying9 _ _ rfl (own_below hown hr) (s.extract (p + j + 2) (p + j + 2 + N)) rfl (by omega) (Nat.le_trans hb.size hr.size) ?_))
          intro v' w7 hown7 _ hb7
          have hb' := (hb.trans (hr.mono hb.size)).trans hb7
          clear hown hb7 hb hr
          have hb := hb'
          have hr := Below.refl w7.heap.size w7
          clear hb'
          go_wp2_with (first | (go_at_call 96; refine (ends_at (p + (j + 2 + N)) _ ?_ s hs ?_ _).mono ?_; (focus omega); (focus omega); rintro e w4 ⟨rfl, hb4⟩; replace hr := hr.next hb4; clear hb4; rw [H2.out]))
          go_ret3
          exact ⟨bytesOwn_nil (by rw [Hc1.out, H1.out, if_neg (by simp), if_neg h413, if_neg hsh, H2.out]; rfl) _, hb.trans (hr.mono hb.size)⟩
        case inr.inr =>
          have H2 := Lib.hid h2
          clear h2
          go_wp2_with (first | (go_at_call 95; refine (hex_any _ _).mono ?_; rintro e w4 ⟨rfl, hb4⟩; replace hr := hr.next hb4; clear hb4) | (go_at_call 96; refine (ends_at (p + j) _ ?_ s hs ?_ _).mono ?_; (focus omega); (focus omega); rintro e w4 ⟨rfl, hb4⟩; replace hr := hr.next hb4; clear hb4; rw [H1.out]) | (go_at_call 96; refine (ends_at (p + (j + 2 + N)) _ ?_ s hs ?_ _).mono ?_; (focus omega); (focus omega); rintro e w4 ⟨rfl, hb4⟩; replace hr := hr.next hb4; clear hb4; rw [H2.out]) | (at_builtin; refine wpList_pushStr _ rfl _ _ 22 9 rfl w.heap.size rowB Tryz.underlying9 _ _ rfl (own_below hown hr) (s.extract (p + j + 2) (p + j + 2 + N)) rfl (by omega) (Nat.le_trans hb.size hr.size) ?_))
          intro v' w7 hown7 _ hb7
          have hb' := (hb.trans (hr.mono hb.size)).trans hb7
          clear hown hb7 hb hr
          have hb := hb'
          have hr := Below.refl w7.heap.size w7
          clear hb'
          go_wp2_with (first | (go_at_call 96; refine (ends_at (p + (j + 2 + N)) _ ?_ s hs ?_ _).mono ?_; (focus omega); (focus omega); rintro e w4 ⟨rfl, hb4⟩; replace hr := hr.next hb4; clear hb4; rw [H2.out]))
          go_ret3
          exact ⟨bytesOwn_nil (by rw [Hc1.out, H1.out, if_neg (by simp), if_neg h413, if_neg hsh, H2.out]; rfl) _, hb.trans (hr.mono hb.size)⟩
        have hsz2 := ends0 h2
        rw [List.length_drop, len_toL] at hsz2
        have H2 := Lib.hid h2
        clear h2
        by_cases hN0 : N = 0
        case pos =>
          have Hf := Lib.hid (show chunkL [] 0 s.toList = (acc ++ (s.extract (p + j + 2) (p + j + 2 + N)).toList, p + (j + 4), 0) by
            rw [Hc1.out, H1.out, if_neg (by simp), if_neg h413, if_neg hsh, H2.out, if_neg (by simp), if_pos hN0, Hx.out, hN0]; simp)
          have hN1 : ((N : Int) == 0) = true := by simp; omega
          have HN0 := Lib.hid hN0
          clear hN0
          go_wp2_with (first | (go_at_call 95; refine (hex_any _ _).mono ?_; rintro e w4 ⟨rfl, hb4⟩; replace hr := hr.next hb4; clear hb4) | (go_at_call 96; refine (ends_at (p + j) _ ?_ s hs ?_ _).mono ?_; (focus omega); (focus omega); rintro e w4 ⟨rfl, hb4⟩; replace hr := hr.next hb4; clear hb4; rw [H1.out]) | (go_at_call 96; refine (ends_at (p + (j + 2 + N)) _ ?_ s hs ?_ _).mono ?_; (focus omega); (focus omega); rintro e w4 ⟨rfl, hb4⟩; replace hr := hr.next hb4; clear hb4; rw [H2.out]) | (at_builtin; refine wpList_pushStr _ rfl _ _ 22 9 rfl w.heap.size rowB Tryz.underlying9 _ _ rfl (own_below hown hr) (s.extract (p + j + 2) (p + j + 2 + N)) rfl (by omega) (Nat.le_trans hb.size hr.size) ?_))
          intro v' w7 hown7 _ hb7
          have hb' := (hb.trans (hr.mono hb.size)).trans hb7
          clear hown hb7 hb hr
          have hb := hb'
          have hr := Below.refl w7.heap.size w7
          clear hb'
          go_wp2_with (first | (go_at_call 96; refine (ends_at (p + (j + 2 + N)) _ ?_ s hs ?_ _).mono ?_; (focus omega); (focus omega); rintro e w4 ⟨rfl, hb4⟩; replace hr := hr.next hb4; clear hb4; rw [H2.out]))
          go_ret3
          refine ⟨?_, hb.trans (hr.mono hb.size)⟩
          unfold bytesOwn
          rw [Hf.out]
          exact ⟨_, ret_vii (v := v') (by have := HN0.out; show _ = ((p + (j + 4) : Nat) : Int); omega) rfl, by rw [List.length_append]; exact rd_of_own (own_below hown7 hr)⟩
        have Hf := Lib.hid (show ChRel s.toList (acc ++ (s.extract (p + j + 2) (p + j + 2 + N)).toList) (p + (j + 4 + N)) by
          show _ = _
          rw [Hc1.out, H1.out, if_neg (by simp), if_neg h413, if_neg hsh, H2.out, if_neg (by simp), if_neg hN0, dif_neg (by omega), Hx.out])
        have hN1 : ((N : Int) == 0) = false := by simp; omega
        have hxl : (acc ++ (s.extract (p + j + 2) (p + j + 2 + N)).toList).length ≤ 32768 := by rw [List.length_append, len_toL, Hxn.out]; omega
        have Hxl := Lib.hid hxl
        clear hxl
        go_wp2_with (first | (go_at_call 95; refine (hex_any _ _).mono ?_; rintro e w4 ⟨rfl, hb4⟩; replace hr := hr.next hb4; clear hb4) | (go_at_call 96; refine (ends_at (p + j) _ ?_ s hs ?_ _).mono ?_; (focus omega); (focus omega); rintro e w4 ⟨rfl, hb4⟩; replace hr := hr.next hb4; clear hb4; rw [H1.out]) | (go_at_call 96; refine (ends_at (p + (j + 2 + N)) _ ?_ s hs ?_ _).mono ?_; (focus omega); (focus omega); rintro e w4 ⟨rfl, hb4⟩; replace hr := hr.next hb4; clear hb4; rw [H2.out]) | (at_builtin; refine wpList_pushStr _ rfl _ _ 22 9 rfl w.heap.size rowB Tryz.underlying9 _ _ rfl (own_below hown hr) (s.extract (p + j + 2) (p + j + 2 + N)) rfl (by omega) (Nat.le_trans hb.size hr.size) ?_))
        intro v' w7 hown7 _ hb7
        have hb' := (hb.trans (hr.mono hb.size)).trans hb7
        clear hown hb7 hb hr
        have hb := hb'
        have hr := Below.refl w7.heap.size w7
        clear hb'
        go_wp2_with (first | (go_at_call 96; refine (ends_at (p + (j + 2 + N)) _ ?_ s hs ?_ _).mono ?_; (focus omega); (focus omega); rintro e w4 ⟨rfl, hb4⟩; replace hr := hr.next hb4; clear hb4; rw [H2.out]))
        go_roundw
        case rel => exact ⟨_, p + (j + 4 + N), by omega, Hxl.out, by go_num, Hf.out, by rw [List.length_append]; exact own_below hown7 hr, hb.trans (hr.mono hb.size)⟩
        case measure => simp [intOf]; omega
end Go.Proofs.YtmhgnaemafohfaaGreatDoor

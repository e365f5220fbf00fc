/- The program's texts of one kind of bytes (httpd): only, token, bare, value, lower. Conditions: the texts are short. -/
import Derived.Test.YtmhgnaemafohfaaGreatDoorHttpA
namespace Go.Proofs.YtmhgnaemafohfaaGreatDoor
open Go.RowKit
set_option linter.unusedVariables false
set_option linter.unusedSimpArgs false
set_option maxRecDepth 100000

/-- A function of the program that tells a kind of bytes. -/
def Tells (kf : Nat) (p : UInt8 → Bool) : Prop :=
  (∀ args w, (callFunc kf args).run Tryz.prog w = .ok (.enter kf args) w) ∧ ∀ (c : UInt8) w, Calls Tryz.prog kf #[.int .u8 c.toNat] w fun e w' => e = .returned (.bool (p c)) ∧ w = w'
theorem only1_any {kf : Nat} {p : UInt8 → Bool} (hk : Tells kf p) (c : UInt8) (b : Nat) (w : World)
    (hb : w.cell? ⟨b, 0, none⟩ = some (.func (.func kf) #[] #[])) :
    Calls Tryz.prog 116 #[.int .u8 c.toNat, .pointer (some ⟨b, 0, none⟩)] w fun e w' => e = .returned (.bool (!p c)) ∧ w = w' := by
  obtain ⟨hrun, hk⟩ := hk
  have HK := Lib.hid hk
  clear hk
  go_enter Tryz.func116, Tryz.ntmps116
  go_wp2_with fail
  refine (HK.out c _).mono ?_
  rintro e w' ⟨rfl, rfl⟩
  go_wp2_with fail
  go_ret
  exact ⟨rfl, rfl⟩

theorem contains_any {kf : Nat} {p : UInt8 → Bool} (hk : Tells kf p) (l : B) (v : Value) (b : Nat) (w : World)
    (hb : w.cell? ⟨b, 0, none⟩ = some (.func (.func kf) #[] #[])) (hR : Rd w 1 v l.length (bytesV l)) (hl : l.length ≤ 1048576) :
    Calls Tryz.prog 115 #[v, .func (.func 116) #[] #[.pointer (some ⟨b, 0, none⟩)]] w fun e w' => e = .returned (.bool (!l.all p)) ∧ w = w' := by
  have HR := Lib.hid hR
  obtain ⟨A, c, rfl⟩ := hR.shape
  have HCL := Lib.hid (fun c b w => only1_any hk c b w)
  clear hR hk
  go_enter Tryz.func115, Tryz.ntmps115
  go_wp2
  go_loop [8] (fun i => ∃ k : Nat, k ≤ l.length ∧ i = .int .i64 k ∧ Hid ((l.take k).all p = true)) (fun i => l.length - (intOf i).toNat)
  case atStart => exact ⟨0, Nat.zero_le _, rfl, rfl⟩
  case round =>
    obtain ⟨k, hk, rfl, ha⟩ := hrel
    by_cases hlt : k < l.length
    · obtain ⟨x, hh⟩ : ∃ x, l[k]? = some x := ⟨l[k], List.getElem?_eq_getElem hlt⟩
      have Hm := Lib.hid (List.mem_of_getElem? hh)
      have Hd := Lib.hid (take_snoc' hh)
      obtain ⟨b', o, rfl, hc⟩ := HR.out.byteAt hh
      clear hh
      cases hp : p x
      all_goals
        have Hp := Lib.hid hp
        clear hp
        go_wp2_with (go_at_call 116; refine (HCL.out x b _ hb).mono ?_; rintro e w' ⟨rfl, rfl⟩; rw [Hp.out])
      · go_ret
        refine ⟨ret_bool ?_, rfl⟩
        have hf : l.all p = false := by
          rw [← Bool.not_eq_true, List.all_eq_true]; intro h; have := h x Hm.out; rw [Hp.out] at this; cases this
        rw [hf]; simp
      · go_round
        case rel => exact ⟨k + 1, by omega, by go_num, by show _ = _; rw [Hd.out, List.all_append, ha.out]; simp [Hp.out]⟩
        case measure => simp [intOf]; omega
    · have Hf := Lib.hid (show l.all p = true by have := ha.out; rwa [List.take_of_length_le (by omega)] at this)
      go_wp2
      go_ret
      exact ⟨ret_bool (by rw [Hf.out]; simp), rfl⟩
theorem only_any {kf : Nat} {p : UInt8 → Bool} (hk : Tells kf p) (s : ByteArray) (hs : s.size ≤ 1048576) (w : World) :
    Calls Tryz.prog 98 #[.func (.func kf) #[] #[], .string s] w fun e w' => e = .returned (.bool (s.toList.all p)) ∧ Below w.heap.size w w' := by
  have HK := Lib.hid hk
  clear hk
  have kb := fun wx => run_bytes_of_string (P := Tryz.prog) wx 9 22 5 s Tryz.underlying9 Tryz.underlying22 Tryz.underlying5
  go_enter Tryz.func98, Tryz.ntmps98
  go_wp2_with fail
  have hsz : (w.alloc (.cells #[.func (.func kf) #[] #[]] 137)).heap.size = w.heap.size + 1 := by simp
  have h0 : (w.alloc (.cells #[.func (.func kf) #[] #[]] 137)).cell? ⟨w.heap.size, 0, none⟩ = some (.func (.func kf) #[] #[]) := by rw [World.cell?_alloc_mark]; rfl
  have hb1 := (Below.refl w.heap.size w).alloc (Nat.le_refl _) (.cells #[.func (.func kf) #[] #[]] 137)
  generalize w.alloc (.cells #[.func (.func kf) #[] #[]] 137) = w1 at hsz h0 hb1 ⊢
  have hR := fun fr => rd_bytes' (w := w1) (wc := w1) (s := s) (n := s.size) (e := 5) (fr := fr) rfl (by omega)
  have hb2 := ((Below.refl w1.heap.size w1).alloc (Nat.le_refl _) (.cells (bytesRow s (grownCap w1 s.size 0 5)) 5 ((bytesRow s (grownCap w1 s.size 0 5)).size, (bytesRow s (grownCap w1 s.size 0 5)).size + 1))).drew
  rw [hsz] at hR
  refine (contains_any HK.out s.toList _ _ _ (Below.keeps hb2 h0) (hR _) (by rw [len_toL]; exact hs)).mono ?_
  rintro e w' ⟨rfl, rfl⟩
  go_wp2_with fail
  go_ret
  exact ⟨ret_bool (by simp), hb1.next hb2⟩

theorem tells1 : Tells 111 (isB 1) := ⟨fun _ _ => by rfl, digitB⟩
theorem tells2 : Tells 99 (isB 2) := ⟨fun _ _ => by rfl, capitalB⟩
theorem tells3 : Tells 110 (isB 3) := ⟨fun _ _ => by rfl, seenB⟩
theorem tells4 : Tells 97 (isB 4) := ⟨fun _ _ => by rfl, tokenishB⟩
theorem tells6 : Tells 103 (isB 6) := ⟨fun _ _ => by rfl, looseB⟩

def tokenL (l : B) : Bool := decide (0 < l.length) && decide (l.length < 65) && l.all (isB 4)
theorem token_any (s : ByteArray) (hs : s.size ≤ 1048576) (w : World) :
    Calls Tryz.prog 79 #[.string s] w fun e w' => e = .returned (.bool (tokenL s.toList)) ∧ Below w.heap.size w w' := by
  have Hl := Lib.hid (len_toL s)
  by_cases h0 : 0 < s.size <;> by_cases h1 : s.size < 65
  case pos =>
    go_enter Tryz.func79, Tryz.ntmps79
    go_wp2_with (go_at_call 98; refine (only_any tells4 s hs _).mono ?_; rintro e w' ⟨rfl, hb⟩)
    go_ret
    exact ⟨ret_bool (by unfold tokenL; rw [Hl.out]; simp [h0, h1]), hb⟩
  all_goals
    go_enter Tryz.func79, Tryz.ntmps79
    go_wp2_with (go_at_call 98; refine (only_any tells4 s hs _).mono ?_; rintro e w' ⟨rfl, hb⟩)
    go_ret
    exact ⟨ret_bool (by unfold tokenL; rw [Hl.out]; simp [h0, h1]), Below.refl _ _⟩

/-- A text without gaps at its ends. -/
def bareL (l : B) : B := ((l.dropWhile (isB 5)).reverse.dropWhile (isB 5)).reverse
def BareRel (l m : B) : Prop := l.dropWhile (isB 5) = m.dropWhile (isB 5)
def BareRel2 (l m : B) : Prop := bareL l = (m.reverse.dropWhile (isB 5)).reverse
theorem bare2_start {l m : B} (h : BareRel l m) (hm : m.dropWhile (isB 5) = m) : BareRel2 l m := by unfold BareRel2 bareL; unfold BareRel at h; rw [h, hm]
theorem bare2_step {l m k : B} {c : UInt8} (h : BareRel2 l m) (hm : m = k ++ [c]) (hc : isB 5 c = true) : BareRel2 l k := by
  unfold BareRel2 at *; rw [h, hm, List.reverse_append, List.reverse_singleton, List.singleton_append, List.dropWhile_cons, hc]; rfl
theorem bare2_end {l m k : B} {c : UInt8} (h : BareRel2 l m) (hm : m = k ++ [c]) (hc : isB 5 c = false) : m = bareL l := by
  unfold BareRel2 at *; rw [h, hm, List.reverse_append, List.reverse_singleton, List.singleton_append, List.dropWhile_cons, hc]; simp
theorem bare_any (s : ByteArray) (hs : s.size ≤ 1048576) (w : World) :
    Calls Tryz.prog 102 #[.string s] w fun e w' => e = .returned (.string (ofL (bareL s.toList))) ∧ w = w' := by
  go_enter Tryz.func102, Tryz.ntmps102
  go_wp2
  go_loop [0] (fun sv => ∃ t : ByteArray, sv = .string t ∧ t.size ≤ 1048576 ∧ BareRel s.toList t.toList) (fun sv => strLen sv)
  case atStart => exact ⟨s, rfl, hs, rfl⟩
  case round =>
    obtain ⟨t, rfl, ht, hrel1⟩ := hrel
    have HREL := Lib.hid hrel1
    clear hrel1
    have Hl := Lib.hid (len_toL t)
    by_cases h0 : 0 < t.size
    · have Hd := Lib.hid (show t.toList = t[0] :: t.toList.drop 1 from by have := drop_eq t 0 h0; simpa using this)
      cases hp : isB 5 t[0]
      · have Hp := Lib.hid hp
        clear hp
        go_wp2_with (go_at_call 118; refine (gapB t[0] _).mono ?_; rintro e w' ⟨rfl, rfl⟩; rw [Hp.out])
        have h2 := (bare2_start HREL.out (by rw [Hd.out, List.dropWhile_cons, Hp.out]; rfl))
        have H2 := Lib.hid h2
        clear h2
        go_loop [0] (fun sv => ∃ u : ByteArray, sv = .string u ∧ u.size ≤ 1048576 ∧ BareRel2 s.toList u.toList) (fun sv => strLen sv)
        case atStart => exact ⟨t, rfl, ht, H2.out⟩
        case round =>
          clear H2
          obtain ⟨u, rfl, hu, hrel2⟩ := hrel
          have H2 := Lib.hid hrel2
          clear hrel2
          by_cases hn : 0 < u.size
          · have Ht := Lib.hid (show u.toList = u.toList.take (u.size - 1) ++ [u[u.size - 1]] from by
              have := take_eq u (u.size - 1) (by omega)
              rw [show u.size - 1 + 1 = u.size by omega, List.take_of_length_le (by rw [len_toL]; exact Nat.le_refl _)] at this
              exact this)
            cases hq : isB 5 u[u.size - 1]
            · have Hq := Lib.hid hq
              clear hq
              go_wp2_with (go_at_call 118; refine (gapB u[u.size - 1] _).mono ?_; rintro e w' ⟨rfl, rfl⟩; rw [Hq.out])
              go_ret
              exact ⟨ret_strL (bare2_end H2.out Ht.out Hq.out), rfl⟩
            · have Hq := Lib.hid hq
              clear hq
              go_wp2_with (go_at_call 118; refine (gapB u[u.size - 1] _).mono ?_; rintro e w' ⟨rfl, rfl⟩; rw [Hq.out])
              go_round
              case rel => exact ⟨_, rfl, size_to hu, by rw [toL_to]; exact bare2_step H2.out Ht.out Hq.out⟩
              case measure => simp only [strLen, ByteArray.size_extract]; omega
          · have Hu := Lib.hid (show u.toList = [] from List.eq_nil_of_length_eq_zero (by rw [len_toL]; omega))
            go_wp2
            go_ret
            exact ⟨ret_strL (by rw [Hu.out]; have := H2.out; rw [Hu.out] at this; unfold BareRel2 at this; rw [this]; rfl), rfl⟩
      · have Hp := Lib.hid hp
        clear hp
        go_wp2_with (go_at_call 118; refine (gapB t[0] _).mono ?_; rintro e w' ⟨rfl, rfl⟩; rw [Hp.out])
        go_round
        case rel => exact ⟨_, rfl, size_from ht, by rw [toL_from]; have := HREL.out; unfold BareRel at *; rw [this, Hd.out, List.dropWhile_cons, Hp.out]; rfl⟩
        case measure => simp only [strLen, ByteArray.size_extract]; omega
    · go_wp2
      have h2 := (bare2_start HREL.out (by rw [show t.toList = [] from List.eq_nil_of_length_eq_zero (by rw [len_toL]; omega)]; rfl))
      have H2 := Lib.hid h2
      clear h2
      go_loop [0] (fun sv => ∃ u : ByteArray, sv = .string u ∧ u.size ≤ 1048576 ∧ BareRel2 s.toList u.toList) (fun sv => strLen sv)
      case atStart => exact ⟨t, rfl, ht, H2.out⟩
      case round =>
        clear H2
        obtain ⟨u, rfl, hu, hrel2⟩ := hrel
        have H2 := Lib.hid hrel2
        clear hrel2
        by_cases hn : 0 < u.size
        · have Ht := Lib.hid (show u.toList = u.toList.take (u.size - 1) ++ [u[u.size - 1]] from by
            have := take_eq u (u.size - 1) (by omega)
            rw [show u.size - 1 + 1 = u.size by omega, List.take_of_length_le (by rw [len_toL]; exact Nat.le_refl _)] at this
            exact this)
          cases hq : isB 5 u[u.size - 1]
          · have Hq := Lib.hid hq
            clear hq
            go_wp2_with (go_at_call 118; refine (gapB u[u.size - 1] _).mono ?_; rintro e w' ⟨rfl, rfl⟩; rw [Hq.out])
            go_ret
            exact ⟨ret_strL (bare2_end H2.out Ht.out Hq.out), rfl⟩
          · have Hq := Lib.hid hq
            clear hq
            go_wp2_with (go_at_call 118; refine (gapB u[u.size - 1] _).mono ?_; rintro e w' ⟨rfl, rfl⟩; rw [Hq.out])
            go_round
            case rel => exact ⟨_, rfl, size_to hu, by rw [toL_to]; exact bare2_step H2.out Ht.out Hq.out⟩
            case measure => simp only [strLen, ByteArray.size_extract]; omega
        · have Hu := Lib.hid (show u.toList = [] from List.eq_nil_of_length_eq_zero (by rw [len_toL]; omega))
          go_wp2
          go_ret
          exact ⟨ret_strL (by rw [Hu.out]; have := H2.out; rw [Hu.out] at this; unfold BareRel2 at this; rw [this]; rfl), rfl⟩

def valueL (l : B) : Bool := decide (bareL l = l) && l.all (isB 6)
theorem value_any (s : ByteArray) (hs : s.size ≤ 1048576) (w : World) :
    Calls Tryz.prog 81 #[.string s] w fun e w' => e = .returned (.bool (valueL s.toList)) ∧ Below w.heap.size w w' := by
  cases hb : ((ofL (bareL s.toList)).toList == s.toList)
  case true =>
    have Hb := Lib.hid hb
    go_enter Tryz.func81, Tryz.ntmps81
    go_wp2_with (first | (go_at_call 102; refine (bare_any s hs _).mono ?_; rintro e w' ⟨rfl, rfl⟩) | (go_at_call 98; refine (only_any tells6 s hs _).mono ?_; rintro e w' ⟨rfl, hb'⟩))
    go_ret
    exact ⟨ret_bool (by unfold valueL; have h := Hb.out; rw [toL_ofL, beq_iff_eq] at h; simp [h]), hb'⟩
  · have Hb := Lib.hid hb
    go_enter Tryz.func81, Tryz.ntmps81
    go_wp2_with (first | (go_at_call 102; refine (bare_any s hs _).mono ?_; rintro e w' ⟨rfl, rfl⟩) | (go_at_call 98; refine (only_any tells6 s hs _).mono ?_; rintro e w' ⟨rfl, hb'⟩))
    go_ret
    exact ⟨ret_bool (by unfold valueL; have h := Hb.out; rw [toL_ofL, beq_eq_false_iff_ne] at h; simp [h]), Below.refl _ _⟩
end Go.Proofs.YtmhgnaemafohfaaGreatDoor

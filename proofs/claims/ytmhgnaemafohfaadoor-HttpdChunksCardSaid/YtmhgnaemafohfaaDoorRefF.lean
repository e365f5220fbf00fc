/- The reference's Chunks (blotterref08): a body in chunks. Conditions: the text is short. -/
import Derived.Test.YtmhgnaemafohfaaDoorRefE
namespace Go.Proofs.YtmhgnaemafohfaaDoor
open Go.RowKit
set_option linter.unusedVariables false
set_option linter.unusedSimpArgs false
set_option maxRecDepth 100000

def isHex (c : UInt8) : Bool := decide (hexN c < 16)
def digitsN (l : B) : Nat := (l.takeWhile isHex).length
def hexF (l : B) : Nat := l.foldl (fun n c => 16 * n + hexN c) 0
theorem hexF_snoc (l : B) (c : UInt8) : hexF (l ++ [c]) = 16 * hexF l + hexN c := by simp [hexF]
theorem hexF_lt : ∀ (n : Nat) (l : B), l.length = n → l.all isHex = true → hexF l < 16 ^ n
  | 0, l, h, _ => by obtain rfl := List.eq_nil_of_length_eq_zero h; decide
  | n + 1, l, h, ha => by
    rcases List.eq_nil_or_concat l with rfl | ⟨l', c, rfl⟩
    · simp at h
    · rw [List.concat_eq_append] at *
      have h1 : l'.length = n := by simpa using h
      rw [List.all_append] at ha
      have ha' : l'.all isHex = true ∧ isHex c = true := by simpa using ha
      have ih := hexF_lt n l' h1 ha'.1
      have hc : hexN c < 16 := by simpa [isHex] using ha'.2
      rw [hexF_snoc, Nat.pow_succ]; omega
theorem takeWhile_all : ∀ l : B, (l.takeWhile isHex).all isHex = true
  | [] => rfl
  | c :: l => by rw [List.takeWhile_cons]; split; (rename_i h; rw [List.all_cons, h, takeWhile_all l]; rfl); rfl
theorem digits_take (l : B) : (l.take (digitsN l)).all isHex = true := by
  unfold digitsN
  have h : l.take (l.takeWhile isHex).length = l.takeWhile isHex := by
    have := List.takeWhile_prefix isHex (l := l); exact (List.prefix_iff_eq_take.1 this).symm
  rw [h]; exact takeWhile_all l
theorem digits_le (l : B) : digitsN l ≤ l.length := (List.takeWhile_sublist _).length_le
theorem digits_in : ∀ (l : B) (j : Nat), j < digitsN l → ∃ c, l[j]? = some c ∧ isHex c = true
  | [], j, h => by simp [digitsN] at h
  | c :: l, j, h => by
    unfold digitsN at h; rw [List.takeWhile_cons] at h
    by_cases hc : isHex c = true
    · rw [if_pos hc] at h
      cases j with
      | zero => exact ⟨c, rfl, hc⟩
      | succ j => obtain ⟨d, h1, h2⟩ := digits_in l j (by unfold digitsN; simpa using h); exact ⟨d, by simpa using h1, h2⟩
    · rw [if_neg hc] at h; simp at h
theorem digits_out : ∀ (l : B) (c : UInt8), l[digitsN l]? = some c → isHex c = false
  | [], c, h => by simp at h
  | d :: l, c, h => by
    unfold digitsN at h; rw [List.takeWhile_cons] at h
    by_cases hd : isHex d = true
    · rw [if_pos hd] at h; exact digits_out l c (by unfold digitsN; simpa using h)
    · rw [if_neg hd] at h; simp at h; subst h; simpa using hd

/-- A body in chunks: its bytes, the place behind it, the status. -/
def chunkL (acc : B) (p : Nat) (l : B) : B × Nat × Nat :=
  if 8 < digitsN l then ([], 0, 400)
  else if digitsN l < l.length ∧ digitsN l = 0 then ([], 0, 400)
  else if endsL (l.drop (digitsN l)) ≠ 0 then ([], 0, endsL (l.drop (digitsN l)))
  else if 32768 - acc.length < hexF (l.take (digitsN l)) then ([], 0, 413)
  else if l.length - (digitsN l + 2) < hexF (l.take (digitsN l)) then ([], 0, 1)
  else if endsL (l.drop (digitsN l + 2 + hexF (l.take (digitsN l)))) ≠ 0 then ([], 0, endsL (l.drop (digitsN l + 2 + hexF (l.take (digitsN l)))))
  else if hexF (l.take (digitsN l)) = 0 then (acc, p + (digitsN l + 4), 0)
  else if h : l.length < digitsN l + 4 + hexF (l.take (digitsN l)) then ([], 0, 0)
  else chunkL (acc ++ (l.drop (digitsN l + 2)).take (hexF (l.take (digitsN l)))) (p + (digitsN l + 4 + hexF (l.take (digitsN l)))) (l.drop (digitsN l + 4 + hexF (l.take (digitsN l))))
termination_by l.length
decreasing_by simp; omega
theorem ends0 : ∀ {l : B}, endsL l = 0 → 2 ≤ l.length
  | [], h => by simp [endsL] at h
  | [c], h => by simp only [endsL, ends1] at h; split at h <;> omega
  | c :: d :: l, h => by simp
theorem endsL_le (l : B) : endsL l = 0 ∨ endsL l = 1 ∨ endsL l = 400 := by
  cases l with
  | nil => simp [endsL]
  | cons c l => cases l with
    | nil => simp only [endsL, ends1]; split <;> simp
    | cons d l => simp only [endsL, ends1]; split <;> (try split) <;> simp
def bytesOwn (base : Nat) (p : B × Nat × Nat) (e : Ending) (w' : World) : Prop :=
  ∃ v, e = .returned (.tuple #[v, .int .i64 p.2.1, .int .i64 p.2.2]) ∧ Rd w' 1 v p.1.length (bytesV p.1)
theorem bytesOwn_nil {base n : Nat} {p : B × Nat × Nat} (h : p = ([], 0, n)) (w' : World) : bytesOwn base p (.returned (.tuple #[.slice none 0 0, .int .i64 0, .int .i64 n])) w' := by
  subst h; exact ⟨_, rfl, rfl, _, _, rfl, Nat.le_refl _, by decide, fun _ => rfl, fun a ha => by cases ha⟩
theorem ret_vii {v : Value} {a b c d : Int} (h1 : a = c) (h2 : b = d) : Ending.returned (.tuple #[v, .int .i64 a, .int .i64 b]) = .returned (.tuple #[v, .int .i64 c, .int .i64 d]) := by rw [h1, h2]
def ChRel (s acc : B) (p : Nat) : Prop := chunkL [] 0 s = chunkL acc p (s.drop p)
theorem drop_at {s : ByteArray} {p j : Nat} {c : UInt8} (h : (s.toList.drop p)[j]? = some c) : ∃ h' : p + j < s.size, s[p + j] = c := by
  rw [List.getElem?_drop] at h
  have hlt := (List.getElem?_eq_some_iff.1 h).1
  rw [len_toL] at hlt
  rw [get_eq s _ hlt] at h
  exact ⟨hlt, Option.some.inj h⟩
end Go.Proofs.YtmhgnaemafohfaaDoor

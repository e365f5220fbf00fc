/- How a value lies in memory. Conditions: none. A list's items (jsonx): by what a value's call tells. Conditions: the text is short. A map that counts names. Conditions: the names are short. -/
import Derived.Test.YtigdjnfnkjfkmaaGreatDoorJParH
import Derived.Test.YtigdjnfnkjfkmaaGreatDoorJsonH
import Derived.Deep.RegionLaw
import Derived.Maps.Own
import Derived.Maps.OwnOps
import Derived.Maps.Views
namespace Go.Proofs.YtigdjnfnkjfkmaaGreatDoor
open Go.RowKit
set_option linter.unusedVariables false
set_option linter.unusedSimpArgs false
set_option maxRecDepth 100000

/-- A slice value reads as n elements; where there is none its address may be any; P holds of the block where it lies. -/
def RdP (P : Nat → Prop) (w : World) (size : Nat) (v : Value) (n : Nat) (cs : List Value) : Prop :=
  (∃ A c, v = .slice A n c) ∧ ((n = 0 ∧ cs = []) ∨ (Rd w size v n cs ∧ ∀ a n c, v = .slice (some a) n c → P a.block))
theorem RdP.shape {P : Nat → Prop} {w : World} {size n : Nat} {v : Value} {cs : List Value} (h : RdP P w size v n cs) : ∃ A c, v = .slice A n c := h.1
theorem RdP.keep {P : Nat → Prop} {w w' : World} {size n : Nat} {v : Value} {cs : List Value} (h : RdP P w size v n cs) (hk : ∀ b o u, P b → w.cell? ⟨b, o, none⟩ = some u → w'.cell? ⟨b, o, none⟩ = some u) : RdP P w' size v n cs := by
  obtain ⟨h1, h2⟩ := h
  refine ⟨h1, h2.imp id fun ⟨h3, h4⟩ => ⟨?_, h4⟩⟩
  obtain ⟨k1, A, c, rfl, k3, k4, k5, k6⟩ := h3
  exact ⟨k1, A, c, rfl, k3, k4, k5, fun a ha => ⟨(k6 a ha).1, fun j u hj => hk _ _ _ (h4 a n c (by rw [ha])) ((k6 a ha).2 j u hj)⟩⟩
theorem RdP.mono {P Q : Nat → Prop} {w : World} {size n : Nat} {v : Value} {cs : List Value} (h : RdP P w size v n cs) (hs : 0 < size) (hk : ∀ b, P b → b < w.heap.size → Q b) : RdP Q w size v n cs := by
  obtain ⟨h1, h2⟩ := h
  refine ⟨h1, ?_⟩
  rcases h2 with h2 | ⟨h3, h4⟩
  · exact .inl h2
  · by_cases hn : n = 0
    · refine .inl ⟨hn, ?_⟩
      have := h3.1
      rw [hn, Nat.zero_mul] at this
      exact List.eq_nil_of_length_eq_zero this
    · refine .inr ⟨h3, fun a m c e => hk _ (h4 a m c e) ?_⟩
      obtain ⟨k1, A, c', e', k3, k4, k5, k6⟩ := h3
      rw [e] at e'
      cases e'
      have hl : 0 < cs.length := by rw [k1]; exact Nat.mul_pos (by omega) hs
      exact lt_of_cell ((k6 a rfl).2 0 cs[0] (List.getElem?_eq_getElem hl))
theorem RdP.of_rd {P : Nat → Prop} {w : World} {size n : Nat} {v : Value} {cs : List Value} (h : Rd w size v n cs) (hp : ∀ a n c, v = .slice (some a) n c → P a.block) : RdP P w size v n cs :=
  ⟨h.shape, .inr ⟨h, hp⟩⟩
theorem RdP.nil {P : Nat → Prop} {w : World} {size : Nat} : RdP P w size (.slice none 0 0) 0 [] := ⟨⟨_, _, rfl⟩, .inl ⟨rfl, rfl⟩⟩
theorem RdP.rd {P : Nat → Prop} {w : World} {size n : Nat} {v : Value} {cs : List Value} (h : RdP P w size v n cs) (hn : n ≠ 0) : Rd w size v n cs := by
  rcases h.2 with h | h
  · exact absurd h.1 hn
  · exact h.1
theorem RdP.len {P : Nat → Prop} {w : World} {size n : Nat} {v : Value} {cs : List Value} (h : RdP P w size v n cs) : cs.length = n * size := by
  rcases h.2 with ⟨rfl, rfl⟩ | h
  · simp
  · exact h.1.1
mutual
/-- Five cells read as a value. -/
def RJ (P : Nat → Prop) (w : World) : J → List Value → Prop
  | .mk k n t ns is, cs => ∃ N I, cs = [.int .i64 k, .int .i64 n, .string (ofL t), N, I] ∧ RdP P w 1 N ns.length (strs ns) ∧ ∃ xs, RdP P w 5 I is.length xs ∧ RJs P w is xs
/-- Cells read as values. -/
def RJs (P : Nat → Prop) (w : World) : List J → List Value → Prop
  | [], cs => cs = []
  | v :: l, cs => ∃ a b, cs = a ++ b ∧ RJ P w v a ∧ RJs P w l b
end
theorem RJ.len {P : Nat → Prop} {w : World} {v : J} {cs : List Value} (h : RJ P w v cs) : cs.length = 5 := by
  cases v with
  | mk k n t ns is => rw [RJ] at h; obtain ⟨N, I, rfl, _⟩ := h; rfl
theorem RJs.len {P : Nat → Prop} {w : World} : ∀ {l : List J} {cs : List Value}, RJs P w l cs → cs.length = l.length * 5
  | [], cs, h => by rw [RJs] at h; rw [h]; rfl
  | v :: l, cs, h => by
    rw [RJs] at h
    obtain ⟨a, b, rfl, h1, h2⟩ := h
    rw [List.length_append, h1.len, RJs.len h2, List.length_cons]; omega
theorem RJs.all {P : Nat → Prop} {w : World} : ∀ {l : List J} {cs : List Value}, RJs P w l cs ↔ (cs.length = l.length * 5 ∧ ∀ i v, l[i]? = some v → RJ P w v ((cs.drop (i * 5)).take 5))
  | [], cs => by
    rw [RJs]
    constructor
    · intro h; subst h; exact ⟨rfl, fun i v h => by simp at h⟩
    · intro h; exact List.eq_nil_of_length_eq_zero (by simpa using h.1)
  | v :: l, cs => by
    constructor
    · intro h
      refine ⟨h.len, ?_⟩
      rw [RJs] at h
      obtain ⟨a, b, rfl, h1, h2⟩ := h
      have hal := h1.len
      intro i u hu
      cases i with
      | zero =>
        simp only [List.getElem?_cons_zero, Option.some.injEq] at hu
        subst hu
        rw [Nat.zero_mul, List.drop_zero, List.take_append_of_le_length (by omega), List.take_of_length_le (by omega)]; exact h1
      | succ i =>
        rw [List.getElem?_cons_succ] at hu
        have := (RJs.all.1 h2).2 i u hu
        rw [show (i + 1) * 5 = a.length + i * 5 by omega, ← List.drop_drop, List.drop_left]; exact this
    · intro ⟨h1, h2⟩
      rw [RJs]
      refine ⟨cs.take 5, cs.drop 5, (List.take_append_drop 5 cs).symm, by simpa using h2 0 v rfl, RJs.all.2 ⟨?_, fun i u hu => ?_⟩⟩
      · rw [List.length_drop, h1, List.length_cons]; omega
      · have := h2 (i + 1) u hu
        rw [List.drop_drop, show 5 + i * 5 = (i + 1) * 5 by omega]; exact this
theorem RJ.keep {P : Nat → Prop} {w w' : World} (hk : ∀ b o u, P b → w.cell? ⟨b, o, none⟩ = some u → w'.cell? ⟨b, o, none⟩ = some u) : ∀ (v : J) (cs : List Value), RJ P w v cs → RJ P w' v cs := by
  intro v
  induction v using J.ind with
  | h k n t ns is ih =>
    intro cs h
    rw [RJ] at h ⊢
    obtain ⟨N, I, rfl, h1, xs, h2, h3⟩ := h
    refine ⟨N, I, rfl, h1.keep hk, xs, h2.keep hk, RJs.all.2 ⟨h3.len, fun i u hu => ?_⟩⟩
    exact ih u (List.mem_of_getElem? hu) _ ((RJs.all.1 h3).2 i u hu)
theorem RJ.mono {P Q : Nat → Prop} {w : World} (hk : ∀ b, P b → b < w.heap.size → Q b) : ∀ (v : J) (cs : List Value), RJ P w v cs → RJ Q w v cs := by
  intro v
  induction v using J.ind with
  | h k n t ns is ih =>
    intro cs h
    rw [RJ] at h ⊢
    obtain ⟨N, I, rfl, h1, xs, h2, h3⟩ := h
    refine ⟨N, I, rfl, h1.mono (by decide) hk, xs, h2.mono (by decide) hk, RJs.all.2 ⟨h3.len, fun i u hu => ?_⟩⟩
    exact ih u (List.mem_of_getElem? hu) _ ((RJs.all.1 h3).2 i u hu)
theorem RJs.keep {P : Nat → Prop} {w w' : World} (hk : ∀ b o u, P b → w.cell? ⟨b, o, none⟩ = some u → w'.cell? ⟨b, o, none⟩ = some u) {l : List J} {cs : List Value} (h : RJs P w l cs) : RJs P w' l cs :=
  RJs.all.2 ⟨h.len, fun i u hu => RJ.keep hk _ _ ((RJs.all.1 h).2 i u hu)⟩
theorem RJs.mono {P Q : Nat → Prop} {w : World} (hk : ∀ b, P b → b < w.heap.size → Q b) {l : List J} {cs : List Value} (h : RJs P w l cs) : RJs Q w l cs :=
  RJs.all.2 ⟨h.len, fun i u hu => RJ.mono hk _ _ ((RJs.all.1 h).2 i u hu)⟩
theorem RJs.snoc {P : Nat → Prop} {w : World} {v : J} {c : List Value} (hv : RJ P w v c) : ∀ {l : List J} {cs : List Value}, RJs P w l cs → RJs P w (l ++ [v]) (cs ++ c)
  | [], cs, h => by rw [RJs] at h; subst h; rw [List.nil_append, List.nil_append, RJs]; exact ⟨c, [], by simp, hv, by rw [RJs]⟩
  | u :: l, cs, h => by
    rw [RJs] at h
    obtain ⟨a, b, rfl, h1, h2⟩ := h
    rw [List.cons_append, RJs, List.append_assoc]
    exact ⟨a, b ++ c, rfl, h1, RJs.snoc hv h2⟩
/-- What a frame keeps. -/
theorem touch_keeps {F P : Nat → Prop} {w w' : World} (ht : Touch F w w') (hp : ∀ b, P b → ¬ F b) : ∀ b o u, P b → w.cell? ⟨b, o, none⟩ = some u → w'.cell? ⟨b, o, none⟩ = some u := by
  intro b o u hb h
  rw [ht.cell (p := ⟨b, o, none⟩) (lt_of_cell h) (hp b hb)]; exact h
theorem below_keeps {P : Nat → Prop} {w w' : World} (hb : Below w.heap.size w w') : ∀ b o u, P b → w.cell? ⟨b, o, none⟩ = some u → w'.cell? ⟨b, o, none⟩ = some u := fun _ _ _ _ h => Below.keeps hb h
theorem RJ.below {P : Nat → Prop} {w w' : World} {v : J} {cs : List Value} (h : RJ P w v cs) (hb : Below w.heap.size w w') : RJ P w' v cs := RJ.keep (below_keeps hb) _ _ h
theorem RJs.below {P : Nat → Prop} {w w' : World} {v : List J} {cs : List Value} (h : RJs P w v cs) (hb : Below w.heap.size w w') : RJs P w' v cs := RJs.keep (below_keeps hb) h
/-- A value that is told: its memory is new. -/
def valV (H : Nat) (v : J) (e : Ending) (w : World) : Prop := ∃ N I, e = .returned (.agg #[.int .i64 v.kind, .int .i64 v.int, .string (ofL v.text), N, I]) ∧ RJ (fun b => H ≤ b) w v [.int .i64 v.kind, .int .i64 v.int, .string (ofL v.text), N, I]
theorem rj_plain {P : Nat → Prop} {w : World} (k n : Int) (t : B) : RJ P w (.mk k n t [] []) [.int .i64 k, .int .i64 n, .string (ofL t), .slice none 0 0, .slice none 0 0] := by
  rw [RJ]
  exact ⟨_, _, rfl, RdP.nil, [], RdP.nil, by rw [RJs]⟩
end Go.Proofs.YtigdjnfnkjfkmaaGreatDoor
namespace Go.Proofs.YtigdjnfnkjfkmaaGreatDoor
open Go.RowKit
set_option linter.unusedVariables false
set_option linter.unusedSimpArgs false
set_option maxRecDepth 100000

/-- The new row lies where the old one lay, or is new. -/
def Lies (w : World) (v v' : Value) : Prop := ∀ k, v'.ownBlock = some k → v.ownBlock = some k ∨ w.heap.size ≤ k
theorem lies_of {w : World} {x : Obj} {v v' : Value} (h : v'.ownBlock = v.ownBlock ∨ v'.ownBlock = some (w.alloc x).heap.size) : Lies w v v' := by
  intro k hk
  rcases h with h | h
  · exact .inl (h ▸ hk)
  · rw [h] at hk; cases hk; right; simp
theorem touch_push {w0 w' : World} {x : Obj} {v : Value} (hg : (w0.alloc x).grownBy w' v.ownBlock) : Touch (fun k => v.ownBlock = some k) w0 w' :=
  ((Touch.of_below ((Below.refl w0.heap.size w0).alloc (Nat.le_refl _) x)).grown hg fun k hk => hk)
theorem step_pushAt {P : Program} {w0 : World} {ops : Array Oper} {o : Oper} {a : Act} {K : Act → World → Prop} {Q : Exit → Act → World → Prop} {E : Prop} (hgd : o.guard = none) (s x : Operand) (t : TypeId)
    (ho : o.op = .call { callee := .builtin .append, args := #[s, x], argTypes := #[t, t] })
    (base : Nat) {e : TypeId} {z : Value} {size bytes : Nat} (hrow : Row P t e z size bytes)
    (v : Value) (n : Nat) (xs : List Value) (hs : a.eval s = v) (hown : w0.ownsRow base e size v n xs)
    (news : List Value) (g : Nat) (hx : a.eval x = .slice (some ⟨g, 0, none⟩) 1 1) (hg : g = w0.heap.size) (hl : news.length = size) (h1 : ∀ u ∈ news, u.oneCell' = true)
    (hbytes : (n + 1) * bytes ≤ 140737488355328) (hbase : base ≤ w0.heap.size)
    (h : ∀ v' w', w'.ownsRow base e size v' (n + 1) (xs ++ news) → Touch (fun k => v.ownBlock = some k) w0 w' → Lies w0 v v' → K (a.put o.dst v') w') :
    if Region.wanted o (yielded ops a.tmps) = true then Oper.wp P o a (w0.alloc (.cells news.toArray e)) K Q else E := by
  have hw : Region.wanted o (yielded ops a.tmps) = true := by simp [Region.wanted, hgd]
  rw [if_pos hw]
  subst hg
  obtain ⟨ht, ⟨i, hi, hz, hsize, hby⟩, hzs, hsz, hbz⟩ := hrow
  have hle : n + 1 ≤ (n + 1) * bytes := Nat.le_mul_of_pos_right _ hbz
  obtain ⟨v', w', hr, h2, h3, h4, h5⟩ := run_append_own_at (P := P) (w0.alloc (.cells news.toArray e)) base t o.type e i z size bytes ht hi hz hsize hby hzs hsz v n xs (hown.alloc _) ⟨w0.heap.size, 0, none⟩ 1 1 news (by rw [hl, Nat.one_mul]) cells_new h1 (by unfold maxLen; omega) hbytes (by simp; omega)
  unfold Oper.wp execOp
  simp only [ho, resolve, invoke, builtin, Sem.run_bind, Sem.run_pure, Result.andThen_ok, List.map_toArray, List.map_cons, List.map_nil, hs, hx, hr]
  exact h v' w' h2 (touch_push h3) (lies_of h5)
theorem Touch.under {F G : Nat → Prop} {a b c : World} (h1 : Touch G a b) (h2 : Touch F b c) (hF : ∀ k, k < a.heap.size → F k → G k) : Touch G a c :=
  ⟨h2.os.trans h1.os, h2.tape.trans h1.tape, h2.output.trans h1.output, Nat.le_trans h1.size h2.size, fun i hi hf => (h2.block i (Nat.lt_of_lt_of_le hi h1.size) (fun k => hf (hF i hi k))).trans (h1.block i hi hf)⟩
theorem rowJ : Row Tryz.prog 47 49 (.agg #[.int .i64 0, .int .i64 0, .string ⟨#[]⟩, .slice none 0 0, .slice none 0 0]) 5 80 :=
  ⟨Tryz.underlying47, info_parts (by kernel_rfl), rfl, by decide, by decide⟩
theorem row_ne {w : World} {base b : Nat} {e : TypeId} {size n : Nat} {v : Value} {xs : List Value} (h : w.ownsRow base e size v n xs) (hb : b < base) : ∀ k, v.ownBlock = some k → ¬ k = b := fun k hk e => by
  have := (h.lt k hk).1; omega
theorem row_nb {w : World} {base b : Nat} {e : TypeId} {size n : Nat} {v : Value} {xs : List Value} (h : w.ownsRow base e size v n xs) (hb : b < base) : ¬ v.ownBlock = some b := fun hk => by
  have := (h.lt b hk).1; omega
theorem one_json {P : Nat → Prop} {w : World} {v : J} {k n : Int} {t : ByteArray} {N I : Value} (h : RJ P w v [.int .i64 k, .int .i64 n, .string t, N, I]) : ∀ u ∈ [Value.int .i64 k, .int .i64 n, .string t, N, I], u.oneCell' = true := by
  cases v with
  | mk k' n' t' ns is =>
    rw [RJ] at h
    obtain ⟨N', I', e, h1, xs, h2, _⟩ := h
    simp only [List.cons.injEq, and_true] at e
    obtain ⟨_, _, _, rfl, rfl⟩ := e
    obtain ⟨⟨A, c, rfl⟩, _⟩ := h1
    obtain ⟨⟨A', c', rfl⟩, _⟩ := h2
    intro u hu
    simp only [List.mem_cons, List.not_mem_nil, or_false] at hu
    rcases hu with rfl | rfl | rfl | rfl | rfl <;> rfl
theorem own_rdp {P : Nat → Prop} {w : World} {base : Nat} {e : TypeId} {size n : Nat} {v : Value} {xs : List Value} (h : w.ownsRow base e size v n xs) (hp : ∀ b, base ≤ b → P b) : RdP P w size v n xs := by
  refine RdP.of_rd (rd_of_own h) fun a m c hv => ?_
  rcases h.2 with ⟨rfl, _⟩ | ⟨g, cap, cur, rfl, hb, _⟩
  · cases hv
  · cases hv; exact hp _ hb
/-- What a call of 'value' does. -/
def VA (f : Nat) : Prop := ∀ (bp : Nat) (s : ByteArray) (k deep : Nat) (l : B) (w : World), PC w bp s k → At s k l → s.size ≤ 65536 → deep ≤ 16 → 2 * l.length + 1 ≤ f →
    Calls Tryz.prog 76 #[.pointer (some ⟨bp, 0, none⟩), .int .i64 (deep : Int)] w fun e w' => OutU bp s (valV w.heap.size) e w' (valF f deep l) ∧ Touch (fun j => j = bp) w w'
def listB (f deep : Nat) (l : B) : PR J := match skipB l with
  | [] => .fail [] 40
  | d :: r => if d = 93 then .ok (.mk 4 0 [] [] []) r else itemsF f deep [] (d :: r)
set_option maxHeartbeats 8000000 in
theorem list_any (f : Nat) (hV : ∀ g, g < f → VA g) (bp : Nat) (s : ByteArray) (k deep : Nat) (l : B) (w : World) (hP : PC w bp s k) (hl : At s k l) (hs : s.size ≤ 65536) (hd : deep ≤ 16) (hf : 2 * l.length + 2 ≤ f) :
    Calls Tryz.prog 106 #[.pointer (some ⟨bp, 0, none⟩), .int .i64 (deep : Int)] w fun e w' => OutU bp s (valV w.heap.size) e w' (listB f deep l) ∧ Touch (fun j => j = bp) w w' := by
  have HP := Lib.hid hP
  have HL := Lib.hid hl
  have hlen := hl.size
  have hbw := hP.lt
  have HV := Lib.hid hV
  clear hP hl hV
  go_enter Tryz.func106, Tryz.ntmps106
  go_upto_region 2 with fail
  have hb1 := ((Below.refl w.heap.size w).alloc (Nat.le_refl _) (.cells #[.int .i64 0, .int .i64 0, .string ⟨#[]⟩, .slice none 0 0, .slice none 0 0] 49)).alloc (by simp) (.cells #[.int .i64 4, .int .i64 0, .string ⟨#[]⟩, .slice none 0 0, .slice none 0 0] 49)
  have hr1 : JC ((w.alloc (.cells #[.int .i64 0, .int .i64 0, .string ⟨#[]⟩, .slice none 0 0, .slice none 0 0] 49)).alloc (.cells #[.int .i64 4, .int .i64 0, .string ⟨#[]⟩, .slice none 0 0, .slice none 0 0] 49)) w.heap.size 0 0 ⟨#[]⟩ (.slice none 0 0) (.slice none 0 0) :=
    (JC.new w).below ((Below.refl _ _).alloc (Nat.le_refl _) _)
  have hv1 : JC ((w.alloc (.cells #[.int .i64 0, .int .i64 0, .string ⟨#[]⟩, .slice none 0 0, .slice none 0 0] 49)).alloc (.cells #[.int .i64 4, .int .i64 0, .string ⟨#[]⟩, .slice none 0 0, .slice none 0 0] 49)) (w.heap.size + 1) 4 0 ⟨#[]⟩ (.slice none 0 0) (.slice none 0 0) := by
    have := heap_alloc_new (w.alloc (.cells #[.int .i64 0, .int .i64 0, .string ⟨#[]⟩, .slice none 0 0, .slice none 0 0] 49)) (.cells #[.int .i64 4, .int .i64 0, .string ⟨#[]⟩, .slice none 0 0, .slice none 0 0] 49)
    rw [World.size_alloc] at this; exact this
  have hsz1 : ((w.alloc (.cells #[.int .i64 0, .int .i64 0, .string ⟨#[]⟩, .slice none 0 0, .slice none 0 0] 49)).alloc (.cells #[.int .i64 4, .int .i64 0, .string ⟨#[]⟩, .slice none 0 0, .slice none 0 0] 49)).heap.size = w.heap.size + 2 := by simp
  generalize ((w.alloc (.cells #[.int .i64 0, .int .i64 0, .string ⟨#[]⟩, .slice none 0 0, .slice none 0 0] 49)).alloc (.cells #[.int .i64 4, .int .i64 0, .string ⟨#[]⟩, .slice none 0 0, .slice none 0 0] 49)) = w1 at hb1 hr1 hv1 hsz1 ⊢
  have HP1 := Lib.hid (HP.out.below hb1)
  have HB1 := Lib.hid hb1
  have HR1 := Lib.hid hr1
  have HV1 := Lib.hid hv1
  generalize hvb : w.heap.size + 1 = vb at *
  clear hb1 hr1 hv1 HP
  have K1 := Lib.hid (fun w hP => blanks_any bp s k l w hP HL.out hs)
  go_upto_region 3 with (go_at_call 77; with_reducible refine (K1.out _ HP1.out).mono ?_; rintro e w2 ⟨rfl, ⟨j2, hP2, hl2⟩, ht2⟩)
  have hne : ¬ vb = bp ∧ ¬ w.heap.size = bp ∧ ¬ w.heap.size = vb := by omega
  have HP2 := Lib.hid hP2
  have HL2 := Lib.hid hl2
  have HT2 := Lib.hid ht2
  have HR2 := Lib.hid (HR1.out.touch ht2 hne.2.1)
  have HV2 := Lib.hid (HV1.out.touch ht2 hne.1)
  have hlt : bp < w1.heap.size ∧ vb < w1.heap.size ∧ w.heap.size < w1.heap.size := by omega
  clear hP2 hl2 ht2 K1
  have HLB := Lib.hid (show listB f deep l = (match skipB l with | [] => .fail [] 40 | d :: r => if d = 93 then .ok (.mk 4 0 [] [] []) r else itemsF f deep [] (d :: r)) from rfl)
  have hsl := skip_le l
  generalize hsk : skipB l = l2 at *
  clear hsk
  cases l2 with
  | nil =>
    have K2 := Lib.hid (fun w hP => peek_nil bp s j2 w hP HL2.out hs)
    go_wp2_with (go_at_call 105; with_reducible refine (K2.out _ HP2.out).mono ?_; rintro e w5 ⟨rfl, hP5, hb5⟩)
    rw [HLB.out]
    exact ⟨rfl, rfl, ((Touch.of_below HB1.out).trans HT2.out).next hb5⟩
  | cons d r =>
    have K2 := Lib.hid (fun w hP => peek_cons bp s j2 d r w hP HL2.out hs)
    dsimp only at HLB
    by_cases hd93 : d = 93
    · have HX := Lib.hid (show listB f deep l = .ok (.mk 4 0 [] [] []) r by rw [HLB.out, if_pos hd93])
      have hq : ((d.toNat : Int) == 93) = true := by rw [hd93]; rfl
      obtain ⟨hk3, -, ha3⟩ := HL2.out.cons
      have HA3 := Lib.hid ha3
      clear HLB hd93 ha3
      go_upto_region 5 with (go_at_call 105; with_reducible refine (K2.out _ HP2.out).mono ?_; rintro e w5 ⟨rfl, hP5, hb5⟩; have k1 := hP5.c1; have f1 := hP5.fz 1)
      have hps := hP5.set (j2 + 1)
      rw [Int.natCast_add, Int.natCast_one] at hps
      have htp := (Touch.refl (fun j => j = bp) w5).setCell (p := ⟨bp, 1, none⟩) rfl (.int .i64 ((j2 : Int) + 1))
      have hr5 := (HR2.out.below hb5).touch htp hne.2.1
      have hv5 := (HV2.out.below hb5).touch htp hne.1
      have ht5 := (((Touch.of_below HB1.out).trans HT2.out).next hb5).trans htp
      clear k1 f1 hP5
      generalize w5.setCell ⟨bp, 1, none⟩ (.int .i64 ((j2 : Int) + 1)) = wz at hps hr5 hv5 ht5 ⊢
      clear htp
      (have c0 := hv5.c0); (have c1 := hv5.c1); (have c2 := hv5.c2); (have c3 := hv5.c3); (have c4 := hv5.c4); (have g0 := hr5.c0); (have g1 := hr5.c1); (have g2 := hr5.c2); (have g3 := hr5.c3); (have g4 := hr5.c4); (have f0 := hr5.fz 0); (have f1 := hr5.fz 1); (have f2 := hr5.fz 2); (have f3 := hr5.fz 3); (have f4 := hr5.fz 4); (have hx10 := hr5.put 4 0 ⟨#[]⟩ (.slice none 0 0) (.slice none 0 0)); (have HPZ := Lib.hid (hps.putJ (fun e => hne.2.1 e.symm) 4 0 ⟨#[]⟩ (.slice none 0 0) (.slice none 0 0))); (have HTZ := Lib.hid (ht5.putJ (Nat.le_refl _) 4 0 ⟨#[]⟩ (.slice none 0 0) (.slice none 0 0))); (clear hps hr5 hv5 ht5); (go_wp2_with fail); (have hc0 := hx10.c0); (have hc1 := hx10.c1); (have hc2 := hx10.c2); (have hc3 := hx10.c3); (have hc4 := hx10.c4); (refine bodyPost_ret (v := .agg #[.int .i64 4, .int .i64 0, .string ⟨#[]⟩, .slice none 0 0, .slice none 0 0]) (by simp [results, Tryz.results106, go_sem, hc0, hc1, hc2, hc3, hc4]) rfl ⟨?_, HTZ.out⟩)
      rw [HX.out]
      exact ⟨⟨_, _, rfl, rj_plain 4 0 []⟩, j2 + 1, HPZ.out, HA3.out⟩
    · have HX := Lib.hid (show itemsF f deep [] (d :: r) = listB f deep l by rw [HLB.out, if_neg hd93])
      have hq : ((d.toNat : Int) == 93) = false := by rw [show (93 : Int) = ((93 : Nat) : Int) from rfl, u8_eq d 93 (by decide)]; simpa using hd93
      have hlr : (d :: r).length ≤ l.length := hsl
      clear HLB hd93 hsl
      generalize (d :: r) = l3 at *
      go_wp2_with (go_at_call 105; with_reducible refine (K2.out _ HP2.out).mono ?_; rintro e w5 ⟨rfl, hP5, hb5⟩)
      have HP5 := Lib.hid hP5
      have HR5 := Lib.hid (HR2.out.below hb5)
      have HV5 := Lib.hid (HV2.out.below hb5)
      have HT5 := Lib.hid (((Touch.of_below HB1.out).trans HT2.out).next hb5)
      have hlt5 : bp < w5.heap.size ∧ vb < w5.heap.size ∧ w.heap.size < w5.heap.size := by
        have := HT2.out.size; have := hb5.size; omega
      have hw5 : w.heap.size ≤ w5.heap.size := by omega
      clear hP5 hb5 K2 HR2 HV2 HT2 HP2 HR1 HV1 HB1 hsz1 HP1
      go_loopw [] (fun wr => ∃ (is : List J) (I : Value) (xs : List Value) (j : Nat) (m : B) (g : Nat), JC wr vb 4 0 ⟨#[]⟩ (.slice none 0 0) I ∧ wr.ownsRow w5.heap.size 49 5 I is.length xs ∧ RJs (fun b => w5.heap.size ≤ b ∧ ¬ I.ownBlock = some b) wr is xs ∧ JC wr w.heap.size 0 0 ⟨#[]⟩ (.slice none 0 0) (.slice none 0 0) ∧ PC wr bp s j ∧ At s j m ∧ 2 * m.length + 2 ≤ g ∧ g ≤ f ∧ is.length + m.length ≤ l3.length ∧ Hid (itemsF g deep is m = listB f deep l) ∧ Touch (fun k => k = bp ∨ k = vb) w5 wr) (fun wr => s.size - (intOf ((wr.cell? ⟨bp, 1, none⟩).getD undef)).toNat)
      case atStart => exact ⟨[], .slice none 0 0, [], j2, l3, f, HV5.out, World.ownsRow_nil _ _ _ _, by rw [RJs], HR5.out, HP5.out, HL2.out, by omega, Nat.le_refl _, by simp, HX.out, Touch.refl _ _⟩
      case round =>
        obtain ⟨is, I, xs, j, m, g, hJ, hO, hRJ, hR, hP, hL, hg1, hg2, hil, hW, hT⟩ := hrel
        obtain ⟨g, rfl⟩ : ∃ g', g = g' + 1 := ⟨g - 1, by omega⟩
        have hsz := hT.size
        have HJ := Lib.hid hJ
        have HO := Lib.hid hO
        have HRJ := Lib.hid hRJ
        have HR := Lib.hid hR
        have HPr := Lib.hid hP
        have HLr := Lib.hid hL
        have HT := Lib.hid hT
        have hms := hL.size
        clear hJ hO hRJ hR hP hL hT
        rw [itemsF] at hW
        have K4 := Lib.hid (fun w hP => HV.out g (by omega) bp s j deep m w hP HLr.out hs hd (by omega))
        have kd := HJ.out.c4
        rcases hv : valF g deep m with ⟨v, r1⟩ | ⟨r1, e1⟩
        · rw [hv] at hW K4
          unfold OutU valV at K4
          dsimp only at hW K4
          have hrl := val_ok hv
          clear hv
          go_upto_region 6 with fail
          go_region_law (first | (go_simp; go_at_call 76; (with_reducible refine (K4.out _ (HPr.out.below ((Below.refl _ wr).drew))).mono ?_); rintro e w6 ⟨⟨⟨N6, I6, rfl, hRJ6⟩, j6, hP6, hl6⟩, ht6⟩; have hj6 := (HJ.out.below ((Below.refl _ wr).drew)).touch ht6 hne.1; have k6 := hj6.c4; have k6a := keeps_alloc k6 (.cells #[.int .i64 v.kind, .int .i64 v.int, .string (ofL v.text), N6, I6] 49); have ho6 := own_touch (own_below HO.out ((Below.refl _ wr).drew)) ht6 (row_ne HO.out hlt5.1); have hz6 := Nat.le_trans hsz ht6.size) | (refine step_pushAt (by rfl) _ _ _ (by rfl) w5.heap.size rowJ _ _ _ (by rfl) ho6 [.int .i64 v.kind, .int .i64 v.int, .string (ofL v.text), N6, I6] _ (by rfl) (by simp) rfl (one_json hRJ6) (by omega) hz6 ?_; intro v10 w10 hO10 hT10 hL10; obtain ⟨A10, c10, rfl⟩ := (rd_of_own hO10).shape; have hj10 := hj6.touch hT10 (row_nb ho6 hlt5.2.1); have k10 := hj10.c4; have f10 := hj10.fz 4))
          all_goals
            have hsd : wr.heap.size ≤ w6.heap.size := ht6.size
            have hI := fun k hk => (HO.out.lt k hk).2
            have hT11 : Touch (fun k => k = bp ∨ I.ownBlock = some k ∨ k = vb) wr (w10.setCell ⟨vb, 4, none⟩ (.slice A10 (is.length + 1) c10)) :=
              (((Touch.of_below ((Below.refl _ wr).drew)).trans (ht6.mono fun k _ h => .inl h)).trans (hT10.mono fun k _ h => .inr (.inl h))).setCell (p := ⟨vb, 4, none⟩) (.inr (.inr rfl)) _
            have hT6 : Touch (fun k => I.ownBlock = some k ∨ k = vb) w6 (w10.setCell ⟨vb, 4, none⟩ (.slice A10 (is.length + 1) c10)) :=
              (hT10.mono fun k _ h => .inl h).setCell (p := ⟨vb, 4, none⟩) (.inr rfl) _
            have hnI : ¬ I.ownBlock = some bp := row_nb HO.out hlt5.1
            have hnR : ¬ I.ownBlock = some w.heap.size := row_nb HO.out hlt5.2.2
            have HO11 := Lib.hid (own_touch hO10 ((Touch.refl (fun k => k = vb) w10).setCell (p := ⟨vb, 4, none⟩) rfl (.slice A10 (is.length + 1) c10)) (row_ne hO10 hlt5.2.1))
            have HV11 := Lib.hid (hj10.set4 (.slice A10 (is.length + 1) c10))
            have HR11 := Lib.hid (HR.out.touch hT11 (by rintro (h | h | h); exact hne.2.1 h; exact hnR h; exact hne.2.2 h))
            have HP11 := Lib.hid (hP6.touch hT6 (by rintro (h | h); exact hnI h; exact hne.1 h.symm))
            have ha := RJs.keep (touch_keeps hT11 (fun b hb => by
              rintro (h | h | h)
              · have := hb.1; omega
              · exact hb.2.1 h
              · have := hb.1; omega)) (RJs.mono (Q := fun b => w5.heap.size ≤ b ∧ ¬ I.ownBlock = some b ∧ ¬ (Value.slice A10 (is.length + 1) c10).ownBlock = some b) (fun b hb hlt => ⟨hb.1, hb.2, fun e => by
                rcases hL10 b e with h | h
                · exact hb.2 h
                · omega⟩) HRJ.out)
            have hb' := RJ.keep (touch_keeps hT6 (fun b hb => by
              rintro (h | h)
              · have := hI b h; have := hb.1; omega
              · have := hb.1; omega)) _ _ (RJ.mono (Q := fun b => wr.heap.size ≤ b ∧ ¬ (Value.slice A10 (is.length + 1) c10).ownBlock = some b) (fun b hb hlt => ⟨hb, fun e => by
                have hb2 : wr.heap.size ≤ b := hb
                rcases hL10 b e with h | h
                · have := hI b h; omega
                · omega⟩) _ _ hRJ6)
            have HJ11 := Lib.hid (RJs.snoc (RJ.mono (Q := fun b => w5.heap.size ≤ b ∧ ¬ (Value.slice A10 (is.length + 1) c10).ownBlock = some b) (fun b hb _ => ⟨by have := hb.1; omega, hb.2⟩) _ _ hb') (RJs.mono (fun b hb _ => ⟨hb.1, hb.2.2⟩) ha))
            have HT11 := Lib.hid (HT.out.under hT11 (fun k hk h => by
              rcases h with h | h | h
              · exact .inl h
              · have := row_nb HO.out hk; exact absurd h this
              · exact .inr h))
            clear ha hb' hT11 hT6 hI hnI hnR hj10 k10 f10 hO10 hT10 hL10 hz6 ho6 k6a k6 hj6 hP6 hRJ6 ht6 hsd K4 kd
            generalize w10.setCell ⟨vb, 4, none⟩ (.slice A10 (is.length + 1) c10) = w11 at *
            have K5 := Lib.hid (fun w hP => blanks_any bp s j6 r1 w hP hl6 hs)
            have K6 := Lib.hid (fun w j hP hl => one_lit bp s ⟨#[44, 93]⟩ [44, 93] rfl j (skipB r1) w hP hl hs)
            have hsr := skip_le r1
            rcases ho : oneB [44, 93] (skipB r1) with ⟨c, r2⟩ | ⟨r2, e2⟩
            · rw [ho] at hW K6
              unfold OutU byteV at K6
              dsimp only at hW K6
              have hrl2 := congrArg List.length (one_ok ho).1
              rw [List.length_cons] at hrl2
              clear ho
              by_cases h93 : c = 93
              · have HF := Lib.hid (show listB f deep l = .ok (.mk 4 0 [] [] (is ++ [v])) r2 by rw [← hW.out, if_pos h93])
                have hq2 : ((c.toNat : Int) == 93) = true := by rw [h93]; rfl
                clear h93
                go_upto_region 9 with (first | (go_at_call 77; with_reducible refine (K5.out _ HP11.out).mono ?_; rintro e w12 ⟨rfl, ⟨j12, hP12, hl12⟩, ht12⟩) | (go_at_call 129; with_reducible refine (K6.out _ j12 hP12 hl12).mono ?_; rintro e wz ⟨⟨rfl, jz, hps, hlz⟩, htz1⟩))
                have ht1z := ht12.trans htz1
                have hr5 := HR11.out.touch ht1z hne.2.1
                have hv5 := HV11.out.touch ht1z hne.1
                have ht5 := HT5.out.under (HT11.out.trans (ht1z.mono fun k _ h => .inl h)) (fun k hk h => by
                  rcases h with h | h
                  · exact h
                  · omega)
                have HO11' := Lib.hid (own_touch HO11.out ht1z (row_ne HO11.out hlt5.1))
                have HJ11' := Lib.hid (RJs.keep (touch_keeps ht1z (fun b hb e => by have h1 := hb.1; have e' : b = bp := e; omega)) HJ11.out)
                clear HO11 HJ11 ht1z ht12 htz1 hP12 hl12
                obtain ⟨HO11, HJ11⟩ := And.intro HO11' HJ11'
                (have c0 := hv5.c0); (have c1 := hv5.c1); (have c2 := hv5.c2); (have c3 := hv5.c3); (have c4 := hv5.c4); (have g0 := hr5.c0); (have g1 := hr5.c1); (have g2 := hr5.c2); (have g3 := hr5.c3); (have g4 := hr5.c4); (have f0 := hr5.fz 0); (have f1 := hr5.fz 1); (have f2 := hr5.fz 2); (have f3 := hr5.fz 3); (have f4 := hr5.fz 4); (have hx10 := hr5.put 4 0 ⟨#[]⟩ (.slice none 0 0) (.slice A10 (is.length + 1) c10)); (have HPZ := Lib.hid (hps.putJ (fun e => hne.2.1 e.symm) 4 0 ⟨#[]⟩ (.slice none 0 0) (.slice A10 (is.length + 1) c10))); (have HTZ := Lib.hid (ht5.putJ (Nat.le_refl _) 4 0 ⟨#[]⟩ (.slice none 0 0) (.slice A10 (is.length + 1) c10))); (have htz := ((((((Touch.refl (fun j => j = w.heap.size) wz).setCell (p := ⟨w.heap.size, 0, none⟩) rfl (.int .i64 4)).setCell (p := ⟨w.heap.size, 1, none⟩) rfl (.int .i64 0)).setCell (p := ⟨w.heap.size, 2, none⟩) rfl (.string ⟨#[]⟩)).setCell (p := ⟨w.heap.size, 3, none⟩) rfl (.slice none 0 0)).setCell (p := ⟨w.heap.size, 4, none⟩) rfl (.slice A10 (is.length + 1) c10))); (have HOZ := Lib.hid (own_touch HO11.out htz (row_ne HO11.out hlt5.2.2))); (have HJZ := Lib.hid (RJs.keep (touch_keeps htz (fun b hb e => by have h1 := hb.1; have e' : b = w.heap.size := e; omega)) HJ11.out)); (clear hps hr5 hv5 ht5 htz); (go_wp2_with fail); (have hc0 := hx10.c0); (have hc1 := hx10.c1); (have hc2 := hx10.c2); (have hc3 := hx10.c3); (have hc4 := hx10.c4); (refine bodyPost_ret (v := .agg #[.int .i64 4, .int .i64 0, .string ⟨#[]⟩, .slice none 0 0, .slice A10 (is.length + 1) c10]) (by simp [results, Tryz.results106, go_sem, hc0, hc1, hc2, hc3, hc4]) rfl ⟨?_, HTZ.out⟩)
                rw [HF.out]
                refine ⟨⟨_, _, rfl, ?_⟩, jz, HPZ.out, hlz⟩
                rw [RJ]
                exact ⟨_, _, rfl, RdP.nil, _, own_rdp (by rw [List.length_append, List.length_singleton]; exact HOZ.out) (fun b hb => by have hb' : w5.heap.size ≤ b := hb; show w.heap.size ≤ b; omega), RJs.mono (fun b hb _ => by have h1 := hb.1; show w.heap.size ≤ b; omega) HJZ.out⟩
              · have HF := Lib.hid (show itemsF g deep (is ++ [v]) r2 = listB f deep l by rw [← hW.out, if_neg h93])
                have hq2 : ((c.toNat : Int) == 93) = false := by rw [show (93 : Int) = ((93 : Nat) : Int) from rfl, u8_eq c 93 (by decide)]; simpa using h93
                clear h93
                go_wp2_with (first | (go_at_call 77; with_reducible refine (K5.out _ HP11.out).mono ?_; rintro e w12 ⟨rfl, ⟨j12, hP12, hl12⟩, ht12⟩) | (go_at_call 129; with_reducible refine (K6.out _ j12 hP12 hl12).mono ?_; rintro e wz ⟨⟨rfl, jz, hps, hlz⟩, htz1⟩))
                have ht1z := ht12.trans htz1
                have hlsz := hlz.size
                go_roundw
                case rel => exact ⟨is ++ [v], _, _, jz, r2, g, HV11.out.touch ht1z hne.1, by rw [List.length_append, List.length_singleton]; exact own_touch HO11.out ht1z (row_ne HO11.out hlt5.1), RJs.keep (touch_keeps ht1z (fun b hb e => by have h1 := hb.1; have e' : b = bp := e; omega)) HJ11.out, HR11.out.touch ht1z hne.2.1, hps, hlz, by omega, by omega, by rw [List.length_append, List.length_singleton]; omega, HF, HT11.out.trans (ht1z.mono fun k _ h => .inl h)⟩
                case measure =>
                  rw [HPr.out.c1, hps.c1]
                  simp [intOf]; omega
            · rw [ho] at hW K6
              unfold OutU at K6
              dsimp only at hW K6
              clear ho
              go_wp2_with (first | (go_at_call 77; with_reducible refine (K5.out _ HP11.out).mono ?_; rintro e w12 ⟨rfl, ⟨j12, hP12, hl12⟩, ht12⟩) | (go_at_call 129; with_reducible refine (K6.out _ j12 hP12 hl12).mono ?_; rintro e wz ⟨rfl, htz1⟩))
              rw [← hW.out]
              exact ⟨rfl, rfl, HT5.out.under (HT11.out.trans ((ht12.trans htz1).mono fun k _ h => .inl h)) (fun k hk h => by
                  rcases h with h | h
                  · exact h
                  · omega)⟩
        · rw [hv] at hW K4
          unfold OutU at K4
          dsimp only at hW K4
          go_upto_region 6 with fail
          refine wp_region_any (by kernel_rfl) ?_
          try (change wpAny _ _ _ _ _ _ _ (World.drew _))
          refine wpAny_take (i := 0) (v := ?_) rfl (by kernel_rfl) (by kernel_rfl) (by kernel_rfl) (fun _ _ _ h => h) (Or.inl ⟨by rfl, ?_⟩) ?_; rotate_left; (intro w; go_simp; try with_reducible rfl); rotate_left
          refine wpAny_take (i := 2) (v := ?_) rfl (by kernel_rfl) (by kernel_rfl) (by kernel_rfl) (fun _ _ _ h => h) (Or.inl ⟨by rfl, ?_⟩) ?_; rotate_left; (intro w; go_simp; try with_reducible rfl); rotate_left
          refine wpAny_take (i := 3) (v := ?_) rfl (by kernel_rfl) (by kernel_rfl) (by kernel_rfl) (fun _ _ _ h => h) (Or.inl ⟨by rfl, ?_⟩) ?_; rotate_left; (intro w; go_simp; try with_reducible rfl); rotate_left
          refine wpAny_ready (rs := [1, 4]) (by kernel_rfl) (by simp) ?_
          refine AllReady.cons rfl (fun K hK => ?_) (AllReady.cons rfl (fun K hK => ?_) AllReady.nil)
          · go_simp
            refine hK _ _ ?_
            clear hK K
            refine wpAny_ready (rs := [4]) (by kernel_rfl) (by simp) ?_
            refine AllReady.cons rfl (fun K hK => ?_) AllReady.nil
            go_simp
            go_at_call 76
            refine (K4.out _ (HPr.out.below ((Below.refl _ wr).drew))).mono ?_
            rintro e w6 ⟨rfl, ht6⟩
            exact ⟨rfl, by rw [← hW.out]; rfl, HT5.out.under ((HT.out.next ((Below.refl _ wr).drew)).trans (ht6.mono fun k _ h => .inl h)) (fun k hk h => by
                rcases h with h | h
                · exact h
                · omega)⟩
          · go_simp
            go_at_call 76
            refine (K4.out _ (HPr.out.below ((Below.refl _ wr).drew))).mono ?_
            rintro e w6 ⟨rfl, ht6⟩
            exact ⟨rfl, by rw [← hW.out]; rfl, HT5.out.under ((HT.out.next ((Below.refl _ wr).drew)).trans (ht6.mono fun k _ h => .inl h)) (fun k hk h => by
                rcases h with h | h
                · exact h
                · omega)⟩
end Go.Proofs.YtigdjnfnkjfkmaaGreatDoor
namespace Go.Proofs.YtigdjnfnkjfkmaaGreatDoor
open Go.RowKit Go.Maps Go.WideMaps
set_option linter.unusedVariables false
set_option linter.unusedSimpArgs false
set_option maxRecDepth 100000

theorem keyedS : Keyed Tryz.prog 9 := string_keyed Tryz.underlying9
theorem zeroI (w : World) : (zeroValue 3).run Tryz.prog w = .ok (.int .i64 0) w := by kernel_rfl
abbrev num1 (n : Int) : DataW Unit := .lit (.int .i64 n)
abbrev mapIs (w : World) (mb n : Nat) (D : DataW Unit) : Prop := w.ownsMap Tryz.prog 9 (plainElem Tryz.prog 3) mb n D
/-- Of these names each counts one. -/
def Tells (D : DataW Unit) (ns : List B) : Prop := ∀ s : B, D.atKey (.string s) (num1 0) = num1 (if ns.contains s then 1 else 0)
def Seen (w : World) (mb : Nat) (ns : List B) : Prop := ∃ (n : Nat) (D : DataW Unit), mapIs w mb n D ∧ n ≤ ns.length ∧ Tells D ns
theorem Seen.made (w : World) : Seen (w.alloc (.map #[] 0)) w.heap.size [] := ⟨0, .map [], World.ownsMap_made _ _ _ _, Nat.le_refl _, fun s => rfl⟩
theorem mapIs.touch {F : Nat → Prop} {w w' : World} {mb n : Nat} {D : DataW Unit} (h : mapIs w mb n D) (ht : Touch F w w') (hf : ¬ F mb) : mapIs w' mb n D := by
  have hlt := World.ownsMap.lt h
  obtain ⟨es, clock, hb, hF, hs, hD⟩ := h
  exact ⟨es, clock, by rw [ht.block mb hlt hf]; exact hb, hF, hs, hD⟩
theorem Seen.touch {F : Nat → Prop} {w w' : World} {mb : Nat} {ns : List B} (h : Seen w mb ns) (ht : Touch F w w') (hf : ¬ F mb) : Seen w' mb ns := by
  obtain ⟨n, D, h1, h2, h3⟩ := h
  exact ⟨n, D, h1.touch ht hf, h2, h3⟩
theorem key_of (s : B) (hs : s.length ≤ 1048576) : keyOf Tryz.prog 9 (.string (ofL s)) = some (.string s) := by
  have h := keyOf_string_mk (P := Tryz.prog) (k := 9) Tryz.underlying9 (s := ofL s) (by rw [size_ofL]; unfold maxLen; omega)
  rw [h]; rfl
theorem tells_at {D : DataW Unit} {ns : List B} {s : B} {c : Int} (h : Tells D ns) (hat : D.atKey (.string s) (.lit (.int .i64 0)) = .lit (.int .i64 c)) : c = if ns.contains s then 1 else 0 := by
  have := h s
  rw [hat] at this
  simpa [num1] using this
theorem tells_put {w : World} {mb n : Nat} {D : DataW Unit} {ns : List B} {s : B} (hm : mapIs w mb n D) (h : Tells D ns) (hn : ns.contains s = false) : Tells (D.put (.string s) (num1 1)) (ns ++ [s]) := by
  have hI : IsMap D := by obtain ⟨es, clock, hb, hF, hs, hD⟩ := hm; exact ⟨_, hD⟩
  intro t
  by_cases ht : t = s
  · subst ht
    rw [atKey_put_same hI (show WideAt.IsKeyLit (.string _) by trivial)]
    simp
  · rw [atKey_put_other (by intro e; cases e; exact ht rfl), h t]
    simp [ht]
theorem put_at {w : World} {mb n : Nat} {D : DataW Unit} {s : B} {x c : Int} (hm : mapIs w mb n D) (hat : (D.put (.string s) (num1 x)).atKey (.string s) (.lit (.int .i64 0)) = .lit (.int .i64 c)) : c = x := by
  have hI : IsMap D := by obtain ⟨es, clock, hb, hF, hs, hD⟩ := hm; exact ⟨_, hD⟩
  rw [atKey_put_same hI (show WideAt.IsKeyLit (.string _) by trivial)] at hat
  simpa [num1] using hat.symm
end Go.Proofs.YtigdjnfnkjfkmaaGreatDoor

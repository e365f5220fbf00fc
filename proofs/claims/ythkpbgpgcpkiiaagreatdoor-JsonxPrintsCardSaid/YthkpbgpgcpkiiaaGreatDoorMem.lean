/- Slices that are read, rows that are owned: words and small laws. Conditions: none. -/
import Derived.Test.YthkpbgpgcpkiiaaGreatDoorBase
import Derived.Deep.RegionHeld3
import Derived.Lib.AppendStr
namespace Go.Proofs.YthkpbgpgcpkiiaaGreatDoor
open Go.RowKit
set_option linter.unusedVariables false
set_option linter.unusedSimpArgs false

/-- A slice value reads as n elements of so many cells each: the cells are cs. -/
def Rd (w : World) (size : Nat) (v : Value) (n : Nat) (cs : List Value) : Prop :=
  cs.length = n * size ∧ ∃ A c, v = .slice A n c ∧ n ≤ c ∧ c ≤ maxLen ∧ (A = none → n = 0) ∧
    ∀ a, A = some a → a.spot = none ∧ ∀ j u, cs[j]? = some u → w.cell? ⟨a.block, a.off + j, none⟩ = some u

theorem Rd.mono {w w' : World} {size : Nat} {v : Value} {n : Nat} {cs : List Value} (h : Rd w size v n cs)
    (hk : ∀ b o u, w.cell? ⟨b, o, none⟩ = some u → w'.cell? ⟨b, o, none⟩ = some u) : Rd w' size v n cs := by
  obtain ⟨h1, A, c, h2, h3, h4, h5, h6⟩ := h
  exact ⟨h1, A, c, h2, h3, h4, h5, fun a ha => ⟨(h6 a ha).1, fun j u hj => hk _ _ _ ((h6 a ha).2 j u hj)⟩⟩
theorem lt_of_cell {w : World} {b o : Nat} {u : Value} (h : w.cell? ⟨b, o, none⟩ = some u) : b < w.heap.size := World.block_lt_of_cell? w ⟨b, o, none⟩ h
theorem Below.keeps {w w' : World} (hb : Below w.heap.size w w') {b o : Nat} {u : Value} (h : w.cell? ⟨b, o, none⟩ = some u) : w'.cell? ⟨b, o, none⟩ = some u := by
  rw [hb.cell (p := ⟨b, o, none⟩) (lt_of_cell h)]; exact h
theorem Rd.below {w w' : World} {size : Nat} {v : Value} {n : Nat} {cs : List Value} (h : Rd w size v n cs) (hb : Below w.heap.size w w') : Rd w' size v n cs :=
  h.mono fun _ _ _ hc => Below.keeps hb hc
theorem keeps_alloc {w : World} {b o : Nat} {u : Value} (h : w.cell? ⟨b, o, none⟩ = some u) (x : Obj) : (w.alloc x).cell? ⟨b, o, none⟩ = some u := Below.keeps ((Below.refl _ _).alloc (Nat.le_refl _) x) h
theorem Rd.alloc {w : World} {size : Nat} {v : Value} {n : Nat} {cs : List Value} (h : Rd w size v n cs) (x : Obj) : Rd (w.alloc x) size v n cs := h.mono fun _ _ _ hc => keeps_alloc hc x

/-- The cells of element k. -/
theorem Rd.at {w : World} {size : Nat} {A : Option Addr} {c : Nat} {n m : Nat} {cs : List Value} (h : Rd w size (.slice A m c) n cs) {k : Nat} (hk : k < n) :
    ∃ b o, A = some ⟨b, o, none⟩ ∧ ∀ i, i < size → ∃ u, cs[k * size + i]? = some u ∧ w.cell? ⟨b, o + (k * size + i), none⟩ = some u := by
  obtain ⟨h1, A', c', h2, h3, h4, h5, h6⟩ := h
  simp only [Value.slice.injEq] at h2
  obtain ⟨rfl, rfl, rfl⟩ := h2
  cases A with
  | none => have := h5 rfl; omega
  | some a =>
    obtain ⟨hs, hc⟩ := h6 a rfl
    refine ⟨a.block, a.off, by cases a; simp at hs; subst hs; rfl, fun i hi => ?_⟩
    have hlt : k * size + i < cs.length := by
      rw [h1]; have : (k + 1) * size ≤ m * size := Nat.mul_le_mul_right _ hk
      rw [Nat.add_mul] at this; omega
    exact ⟨cs[k * size + i], List.getElem?_eq_getElem hlt, hc _ _ (List.getElem?_eq_getElem hlt)⟩

/-- What is owned is read. -/
theorem rd_of_own {w : World} {base : Nat} {e : TypeId} {size : Nat} {v : Value} {n : Nat} {xs : List Value} (h : w.ownsRow base e size v n xs) : Rd w size v n xs := by
  refine ⟨h.1, ?_⟩
  rcases h.2 with ⟨rfl, rfl⟩ | ⟨g, cap, cur, rfl, hb, hg, hc, hm, hs, ht⟩
  · exact ⟨none, 0, rfl, Nat.le_refl _, Nat.zero_le _, fun _ => rfl, fun a ha => by cases ha⟩
  · refine ⟨some ⟨g, 0, none⟩, cap, rfl, hc, hm, (fun h => by cases h), fun a ha => ?_⟩
    cases ha
    refine ⟨rfl, fun j u hj => ?_⟩
    rw [Nat.zero_add, cell_of_row w g j cur e (0, 0) hg]
    rw [← ht, List.getElem?_take] at hj
    split at hj
    · simpa using hj
    · cases hj

/-- The cells of texts; of pairs of texts. -/
def strs (l : List B) : List Value := l.map fun s => .string (ofL s)
def pairs (l : List (B × B)) : List Value := l.flatMap fun h => [.string (ofL h.1), .string (ofL h.2)]
def bytesV (l : B) : List Value := l.map fun c => .int .u8 c.toNat
theorem strs_len (l : List B) : (strs l).length = l.length := by simp [strs]
theorem bytesV_len (l : B) : (bytesV l).length = l.length := by simp [bytesV]
theorem pairs_len : ∀ l : List (B × B), (pairs l).length = l.length * 2
  | [] => rfl
  | h :: l => by have := pairs_len l; simp [pairs] at this ⊢; omega
theorem strs_snoc (l : List B) (s : B) : strs (l ++ [s]) = strs l ++ [.string (ofL s)] := by simp [strs]
theorem pairs_snoc (l : List (B × B)) (h : B × B) : pairs (l ++ [h]) = pairs l ++ [.string (ofL h.1), .string (ofL h.2)] := by simp [pairs]
theorem bytesV_append (l m : B) : bytesV (l ++ m) = bytesV l ++ bytesV m := by simp [bytesV]
theorem strs_at {l : List B} {k : Nat} {s : B} (h : l[k]? = some s) : (strs l)[k]? = some (.string (ofL s)) := by simp [strs, h]
theorem bytesV_at {l : B} {k : Nat} {c : UInt8} (h : l[k]? = some c) : (bytesV l)[k]? = some (.int .u8 c.toNat) := by simp [bytesV, h]
theorem pairs_at : ∀ {l : List (B × B)} {k : Nat} {h : B × B}, l[k]? = some h → (pairs l)[k * 2]? = some (.string (ofL h.1)) ∧ (pairs l)[k * 2 + 1]? = some (.string (ofL h.2))
  | [], k, h, e => by simp at e
  | x :: l, 0, h, e => by simp at e; subst e; simp [pairs]
  | x :: l, k + 1, h, e => by
    have ih := pairs_at (l := l) (k := k) (h := h) (by simpa using e)
    have h2 : (k + 1) * 2 = k * 2 + 2 := by omega
    have h3 : pairs (x :: l) = [.string (ofL x.1), .string (ofL x.2)] ++ pairs l := by simp [pairs]
    rw [h2, h3]
    exact ⟨by rw [List.getElem?_append_right (by simp)]; simpa using ih.1, by rw [List.getElem?_append_right (by simp)]; simpa using ih.2⟩

/-- Elements of the three kinds, by place. -/
theorem Rd.strAt {w : World} {A : Option Addr} {c m : Nat} {l : List B} (h : Rd w 1 (.slice A m c) l.length (strs l)) {k : Nat} {s : B} (hk : l[k]? = some s) :
    ∃ b o, A = some ⟨b, o, none⟩ ∧ w.cell? ⟨b, o + k, none⟩ = some (.string (ofL s)) := by
  obtain ⟨b, o, hA, hc⟩ := h.at (List.getElem?_eq_some_iff.1 hk).1
  obtain ⟨u, h1, h2⟩ := hc 0 (by decide)
  rw [Nat.mul_one, Nat.add_zero] at h1 h2
  rw [strs_at hk] at h1
  cases h1
  exact ⟨b, o, hA, h2⟩
theorem Rd.byteAt {w : World} {A : Option Addr} {c m : Nat} {l : B} (h : Rd w 1 (.slice A m c) l.length (bytesV l)) {k : Nat} {x : UInt8} (hk : l[k]? = some x) :
    ∃ b o, A = some ⟨b, o, none⟩ ∧ w.cell? ⟨b, o + k, none⟩ = some (.int .u8 x.toNat) := by
  obtain ⟨b, o, hA, hc⟩ := h.at (List.getElem?_eq_some_iff.1 hk).1
  obtain ⟨u, h1, h2⟩ := hc 0 (by decide)
  rw [Nat.mul_one, Nat.add_zero] at h1 h2
  rw [bytesV_at hk] at h1
  cases h1
  exact ⟨b, o, hA, h2⟩
theorem Rd.pairAt {w : World} {A : Option Addr} {c m : Nat} {l : List (B × B)} (h : Rd w 2 (.slice A m c) l.length (pairs l)) {k : Nat} {x : B × B} (hk : l[k]? = some x) :
    ∃ b o, A = some ⟨b, o, none⟩ ∧ w.cell? ⟨b, o + k * 2, none⟩ = some (.string (ofL x.1)) ∧ w.cell? ⟨b, o + k * 2 + 1, none⟩ = some (.string (ofL x.2)) := by
  obtain ⟨b, o, hA, hc⟩ := h.at (List.getElem?_eq_some_iff.1 hk).1
  obtain ⟨u, h1, h2⟩ := hc 0 (by decide)
  obtain ⟨u', h1', h2'⟩ := hc 1 (by decide)
  obtain ⟨p1, p2⟩ := pairs_at hk
  rw [Nat.add_zero] at h1 h2
  rw [p1] at h1
  rw [p2] at h1'
  cases h1; cases h1'
  exact ⟨b, o, hA, h2, by rw [Nat.add_assoc]; exact h2'⟩
theorem oneCell_str (s : ByteArray) : ∀ u ∈ [Value.string s], u.oneCell' = true := by intro u hu; simp at hu; subst hu; rfl
theorem oneCell_pair (s t : ByteArray) : ∀ u ∈ [Value.string s, .string t], u.oneCell' = true := by intro u hu; simp at hu; rcases hu with rfl | rfl <;> rfl
theorem oneCell_bytes (l : B) : ∀ u ∈ bytesV l, u.oneCell' = true := by intro u hu; simp [bytesV] at hu; obtain ⟨c, _, rfl⟩ := hu; rfl

theorem Rd.shape {w : World} {size : Nat} {v : Value} {n : Nat} {cs : List Value} (h : Rd w size v n cs) : ∃ A c, v = .slice A n c := by
  obtain ⟨_, A, c, h, _⟩ := h; exact ⟨A, c, h⟩

theorem below_drewN (B : Nat) (w : World) (n : Nat) : Below B w (w.drewN n) := ⟨rfl, rfl, rfl, Nat.le_refl _, fun _ _ => rfl⟩

theorem _root_.Go.RowKit.Below.next {w a b : World} (h : Below w.heap.size w a) (k : Below a.heap.size a b) : Below w.heap.size w b := h.trans (k.mono h.size)
theorem own_below {w w' : World} {base : Nat} {e : TypeId} {size : Nat} {v : Value} {n : Nat} {xs : List Value} (h : w.ownsRow base e size v n xs) (hb : Below w.heap.size w w') : w'.ownsRow base e size v n xs :=
  h.kept (row := none) ⟨hb.os, hb.tape, hb.output, hb.size, fun k hk _ => hb.block k hk⟩ (by cases v.ownBlock <;> simp)

/-- A slice type's element, as the program's table has it. -/
def Row (P : Program) (t e : TypeId) (z : Value) (size bytes : Nat) : Prop :=
  P.underlying t = some (.slice e) ∧ (∃ i, P.info? e = some i ∧ i.zero = some z ∧ i.size = size ∧ i.bytes = bytes) ∧ z.cells.size = size ∧ 0 < size ∧ 0 < bytes

theorem cells_new {w0 : World} {e : TypeId} {news : List Value} (j : Nat) (u : Value) (h : news[j]? = some u) :
    (w0.alloc (.cells news.toArray e)).cell? ((⟨w0.heap.size, 0, none⟩ : Addr).add j) = some u := by
  have hadd : (⟨w0.heap.size, 0, none⟩ : Addr).add j = ⟨w0.heap.size, j, none⟩ := by unfold Addr.add; split <;> simp_all
  rw [hadd, World.cell?_alloc_mark]; simpa using h

/-- 'append(xs, x)' of an own slice: what is owned grows by one. -/
theorem wpList_push {P : Program} (w0 : World) {ops : Array Oper} {rest : List Oper} {o : Oper} {a : Act} {Q : Exit → Act → World → Prop} (hgd : o.guard = none) (s x : Operand) (t : TypeId)
    (ho : o.op = .call { callee := .builtin .append, args := #[s, x], argTypes := #[t, t] })
    (base : Nat) {e : TypeId} {z : Value} {size bytes : Nat} (hrow : Row P t e z size bytes)
    (v : Value) (n : Nat) (xs : List Value) (hs : a.eval s = v) (hown : w0.ownsRow base e size v n xs)
    (news : List Value) (g : Nat) (hx : a.eval x = .slice (some ⟨g, 0, none⟩) 1 1) (hg : g = w0.heap.size) (hl : news.length = size) (h1 : ∀ u ∈ news, u.oneCell' = true)
    (hbytes : (n + 1) * bytes ≤ 140737488355328) (hbase : base ≤ w0.heap.size)
    (h : ∀ v' w', w'.ownsRow base e size v' (n + 1) (xs ++ news) → (w0.alloc (.cells news.toArray e)).grownBy w' v.ownBlock → Below base w0 w' → v' ≠ .slice none 0 0 → wpList P ops Q rest (a.put o.dst v') w') :
    wpList P ops Q (o :: rest) a (w0.alloc (.cells news.toArray e)) := by
  obtain ⟨ht, ⟨i, hi, hz, hsize, hby⟩, hzs, hsz, hbz⟩ := hrow
  subst hg
  have hle : n + 1 ≤ (n + 1) * bytes := Nat.le_mul_of_pos_right _ hbz
  refine wpList_append_own _ hgd s x t ho base e i z size bytes ht hi hz hsize hby hzs hsz v n xs hs (hown.alloc _) ⟨w0.heap.size, 0, none⟩ 1 1 news hx (by rw [hl, Nat.one_mul]) cells_new h1
    (by unfold maxLen; omega) hbytes (by simp; omega) fun v' w' h2 h3 h4 => ?_
  refine h v' w' h2 h3 (((Below.refl base w0).alloc hbase _).grown h3 (by simp; omega) fun k hk => (hown.lt k hk).1) ?_
  intro hv
  have := (h4.1 hv).2
  omega

/-- 'append(xs, x)', as one step of a region that draws its order. -/
theorem step_push {P : Program} {w0 : World} {ops : Array Oper} {o : Oper} {a : Act} {K : Act → World → Prop} {Q : Exit → Act → World → Prop} {E : Prop} (hgd : o.guard = none) (s x : Operand) (t : TypeId)
    (ho : o.op = .call { callee := .builtin .append, args := #[s, x], argTypes := #[t, t] })
    (base : Nat) {e : TypeId} {z : Value} {size bytes : Nat} (hrow : Row P t e z size bytes)
    (v : Value) (n : Nat) (xs : List Value) (hs : a.eval s = v) (hown : w0.ownsRow base e size v n xs)
    (news : List Value) (g : Nat) (hx : a.eval x = .slice (some ⟨g, 0, none⟩) 1 1) (hg : g = w0.heap.size) (hl : news.length = size) (h1 : ∀ u ∈ news, u.oneCell' = true)
    (hbytes : (n + 1) * bytes ≤ 140737488355328) (hbase : base ≤ w0.heap.size)
    (h : ∀ v' w', w'.ownsRow base e size v' (n + 1) (xs ++ news) → (w0.alloc (.cells news.toArray e)).grownBy w' v.ownBlock → Below base w0 w' → v' ≠ .slice none 0 0 → K (a.put o.dst v') w') :
    if Region.wanted o (yielded ops a.tmps) = true then Oper.wp P o a (w0.alloc (.cells news.toArray e)) K Q else E := by
  have hw : Region.wanted o (yielded ops a.tmps) = true := by simp [Region.wanted, hgd]
  rw [if_pos hw]
  subst hg
  obtain ⟨ht, ⟨i, hi, hz, hsize, hby⟩, hzs, hsz, hbz⟩ := hrow
  have hle : n + 1 ≤ (n + 1) * bytes := Nat.le_mul_of_pos_right _ hbz
  refine wp_append_own _ s x t ho base e i z size bytes ht hi hz hsize hby hzs hsz v n xs hs (hown.alloc _) ⟨w0.heap.size, 0, none⟩ 1 1 news hx (by rw [hl, Nat.one_mul]) cells_new h1
    (by unfold maxLen; omega) hbytes (by simp; omega) fun v' w' h2 h3 h4 => ?_
  refine h v' w' h2 h3 (((Below.refl base w0).alloc hbase _).grown h3 (by simp; omega) fun k hk => (hown.lt k hk).1) ?_
  intro hv
  have := (h4.1 hv).2
  omega

/-- 'append(b, s...)', s a text. -/
theorem wpList_pushStr {P : Program} (w : World) {ops : Array Oper} {rest : List Oper} {o : Oper} {a : Act} {Q : Exit → Act → World → Prop} (hgd : o.guard = none) (sl x : Operand) (t u : TypeId)
    (ho : o.op = .call { callee := .builtin .append, args := #[sl, x], argTypes := #[t, u] })
    (base : Nat) {e : TypeId} (hrow : Row P t e (.int .u8 0) 1 1) (hu : P.underlying u = some .string)
    (v : Value) (l : B) (hs : a.eval sl = v) (hown : w.ownsRow base e 1 v l.length (bytesV l)) (s : ByteArray) (hx : a.eval x = .string s)
    (hbytes : l.length + s.size ≤ 140737488355328) (hbase : base ≤ w.heap.size)
    (h : ∀ v' w', w'.ownsRow base e 1 v' (l ++ s.toList).length (bytesV (l ++ s.toList)) → w.grownBy w' v.ownBlock → Below base w w' → wpList P ops Q rest (a.put o.dst v') w') : wpList P ops Q (o :: rest) a w := by
  obtain ⟨ht, ⟨i, hi, hz, hsize, hby⟩, hzs, hsz, hbz⟩ := hrow
  refine Lib.wpList_append_own_string w hgd sl x t u ho base e i ht hu hi hz hsize hby v _ _ hs hown s hx (by unfold maxLen; omega) hbytes hbase fun v' w' h2 h3 h4 => ?_
  refine h v' w' ?_ h3 ((Below.refl base w).grown h3 hbase fun k hk => (hown.lt k hk).1)
  have hc : Lib.strCells s = bytesV s.toList := by unfold Lib.strCells bytesV; rw [toL_eq]
  rw [List.length_append, len_toL, bytesV_append, ← hc]
  exact h2

/-- '[]byte(s)': what lies there reads as the text's bytes. -/
theorem rd_bytes {w : World} {s : ByteArray} {cap : Nat} {e : TypeId} {fr : Nat × Nat} (hc : s.size ≤ cap) (hm : cap ≤ maxLen) :
    Rd (w.alloc (.cells (bytesRow s cap) e fr)) 1 (.slice (some ⟨w.heap.size, 0, none⟩) s.size cap) s.size (bytesV s.toList) := by
  refine ⟨by rw [bytesV_len, len_toL]; omega, _, _, rfl, hc, hm, (fun h => by cases h), fun a ha => ?_⟩
  cases ha
  refine ⟨rfl, fun j u hj => ?_⟩
  have hlt : j < s.data.size := by
    have := (List.getElem?_eq_some_iff.1 hj).1
    rw [bytesV_len, len_toL] at this; exact this
  rw [Nat.zero_add, World.cell?_alloc_mark, bytesRow_at s cap j hlt]
  have h2 := bytesV_at (get_eq s j hlt)
  rw [h2] at hj
  exact hj
/-- The same, the length under another name, a draw behind it. -/
theorem rd_bytes' {w wc : World} {s : ByteArray} {n : Nat} {e : TypeId} {fr : Nat × Nat} (hn : s.size = n) (hm : n ≤ 1099511627776) :
    Rd (w.alloc (.cells (bytesRow s (grownCap wc n 0 e)) e fr)).drew 1 (.slice (some ⟨w.heap.size, 0, none⟩) n (grownCap wc n 0 e)) s.toList.length (bytesV s.toList) := by
  subst hn
  rw [len_toL]
  exact rd_bytes (w := w) (grownCap_ge _ _ _ _) (grownCap_le_maxLen _ _ _ _ (by unfold maxLen; omega))
end Go.Proofs.YthkpbgpgcpkiiaaGreatDoor

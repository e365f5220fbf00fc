/- Words of these texts: bytes of strings as lists; frames. Conditions: none. Slices that are read, rows that are owned: words and small laws. Conditions: none. A sharp frame (what a call may write); bytes of a text. Conditions: none. -/
import Derived.Test.YtigdjnfnkjfkmaaGreatDoorProg
import Derived.WalkKit
import Derived.KernelRfl
import Derived.WalkLawsBesides
import Derived.WalkSpells
import Derived.Lib.Hide
import Derived.BigQuiet
import Derived.Deep.QuietTactic
import Derived.Deep.LoopGhost
import Derived.Deep.RegionHeld3
import Derived.Lib.AppendStr
import Derived.Test.YtigdjnfnkjfkmaaGreatDoorShelf
import Derived.Deep.Onto
import Derived.Deep.Heap
namespace Go.Proofs.YtigdjnfnkjfkmaaGreatDoor
open Go.RowKit

/-- A string's bytes; a string of bytes. -/
abbrev B := List UInt8
def ofL (l : B) : ByteArray := ⟨l.toArray⟩
theorem toL_eq (s : ByteArray) : s.toList = s.data.toList := ByteArray.toList_eq s
theorem toL_ofL (l : B) : (ofL l).toList = l := by simp [ofL]
theorem ofL_toL (s : ByteArray) : ofL (s.toList) = s := by simp [toL_eq, ofL]
theorem size_eq (s : ByteArray) : s.size = (s.toList).length := by rw [toL_eq]; rfl
theorem len_toL (s : ByteArray) : (s.toList).length = s.size := (size_eq s).symm
theorem size_ofL (l : B) : (ofL l).size = l.length := by simp [ofL, ByteArray.size]
theorem get_eq (s : ByteArray) (k : Nat) (h : k < s.size) : (s.toList)[k]? = some s[k] := by
  rw [toL_eq]; rw [List.getElem?_eq_getElem (by simpa using h)]; rfl
theorem drop_eq (s : ByteArray) (k : Nat) (h : k < s.size) : (s.toList).drop k = s[k] :: (s.toList).drop (k + 1) := by
  have h' : k < (s.toList).length := by rw [len_toL]; exact h
  rw [List.drop_eq_getElem_cons h']; congr 1
  have := get_eq s k h; rw [List.getElem?_eq_getElem h'] at this; exact Option.some.inj this
theorem take_eq (s : ByteArray) (k : Nat) (h : k < s.size) : (s.toList).take (k + 1) = (s.toList).take k ++ [s[k]] := by
  rw [List.take_add_one, get_eq s k h]; rfl
theorem toL_inj {a b : ByteArray} (h : a.toList = b.toList) : a = b := by have := congrArg ofL h; rwa [ofL_toL, ofL_toL] at this
theorem toL_extract (s : ByteArray) (a b : Nat) : (s.extract a b).toList = ((s.toList).take b).drop a := by
  rw [toL_eq, toL_eq]; simp [ByteArray.data_extract, List.extract_eq_take_drop, List.drop_take]
theorem ret_int {k : IntKind} {a b : Int} (h : a = b) : Ending.returned (.int k a) = .returned (.int k b) := by rw [h]
theorem ret_bool {a b : Bool} (h : a = b) : Ending.returned (.bool a) = .returned (.bool b) := by rw [h]

theorem ofL_nil : ofL [] = ⟨#[]⟩ := rfl

/-- 'string([]byte{c})'. -/
theorem conv_int {P : Program} (src dst e : TypeId) (hs : P.underlying src = some (.slice e)) (he : P.underlying e = some (.int .u8)) (hd : P.underlying dst = some .string) (n : Int) (h0 : 0 ≤ n) (h1 : n < 256) (w : World) :
    (convert src dst (.slice (some ⟨w.heap.size, 0, none⟩) 1 1)).run P (w.alloc (.cells #[.int .u8 n] e)) = .ok (.string (ofL [UInt8.ofNat n.toNat])) (w.alloc (.cells #[.int .u8 n] e)) := by
  have hn : n = ((UInt8.ofNat n.toNat).toNat : Int) := by simp; omega
  refine run_convert_bytes_back (w.alloc (.cells #[.int .u8 n] e)) src dst e ⟨w.heap.size, 0, none⟩ 1 [UInt8.ofNat n.toNat] hs he hd ?_
  intro j hj
  have : j = 0 := by simpa using hj
  subst this
  simp only [Addr.add, World.cell?_alloc_mark, if_true, List.getElem_cons_zero, ← hn]
  rfl
theorem conv_one {P : Program} (src dst e : TypeId) (hs : P.underlying src = some (.slice e)) (he : P.underlying e = some (.int .u8)) (hd : P.underlying dst = some .string) (c : UInt8) (w : World) :
    (convert src dst (.slice (some ⟨w.heap.size, 0, none⟩) 1 1)).run P (w.alloc (.cells #[.int .u8 c.toNat] e)) = .ok (.string (ofL [c])) (w.alloc (.cells #[.int .u8 c.toNat] e)) := by
  have h := conv_int src dst e hs he hd (c.toNat : Int) (by omega) (by have := c.toNat_lt; omega) w
  simpa using h
end Go.Proofs.YtigdjnfnkjfkmaaGreatDoor
namespace Go.Proofs.YtigdjnfnkjfkmaaGreatDoor
open Go.RowKit
set_option linter.unusedVariables false
set_option linter.unusedSimpArgs false

/-- A slice value reads as n elements of so many cells each: the cells are cs. -/
def Rd (w : World) (size : Nat) (v : Value) (n : Nat) (cs : List Value) : Prop :=
  cs.length = n * size ∧ ∃ A c, v = .slice A n c ∧ n ≤ c ∧ c ≤ maxLen ∧ (A = none → n = 0) ∧
    ∀ a, A = some a → a.spot = none ∧ ∀ j u, cs[j]? = some u → w.cell? ⟨a.block, a.off + j, none⟩ = some u

theorem Rd.mono {w w' : World} {size : Nat} {v : Value} {n : Nat} {cs : List Value} (h : Rd w size v n cs)
    (hk : ∀ b o u, w.cell? ⟨b, o, none⟩ = some u → w'.cell? ⟨b, o, none⟩ = some u) : Rd w' size v n cs := by
  obtain ⟨h1, A, c, h2, h3, h4, h5, h6⟩ := h
  exact ⟨h1, A, c, h2, h3, h4, h5, fun a ha => ⟨(h6 a ha).1, fun j u hj => hk _ _ _ ((h6 a ha).2 j u hj)⟩⟩
theorem lt_of_cell {w : World} {b o : Nat} {u : Value} (h : w.cell? ⟨b, o, none⟩ = some u) : b < w.heap.size := World.block_lt_of_cell? w ⟨b, o, none⟩ h
theorem Below.keeps {w w' : World} (hb : Below w.heap.size w w') {b o : Nat} {u : Value} (h : w.cell? ⟨b, o, none⟩ = some u) : w'.cell? ⟨b, o, none⟩ = some u := by
  rw [hb.cell (p := ⟨b, o, none⟩) (lt_of_cell h)]; exact h
theorem Rd.below {w w' : World} {size : Nat} {v : Value} {n : Nat} {cs : List Value} (h : Rd w size v n cs) (hb : Below w.heap.size w w') : Rd w' size v n cs :=
  h.mono fun _ _ _ hc => Below.keeps hb hc
theorem keeps_alloc {w : World} {b o : Nat} {u : Value} (h : w.cell? ⟨b, o, none⟩ = some u) (x : Obj) : (w.alloc x).cell? ⟨b, o, none⟩ = some u := Below.keeps ((Below.refl _ _).alloc (Nat.le_refl _) x) h
theorem Rd.alloc {w : World} {size : Nat} {v : Value} {n : Nat} {cs : List Value} (h : Rd w size v n cs) (x : Obj) : Rd (w.alloc x) size v n cs := h.mono fun _ _ _ hc => keeps_alloc hc x

/-- The cells of element k. -/
theorem Rd.at {w : World} {size : Nat} {A : Option Addr} {c : Nat} {n m : Nat} {cs : List Value} (h : Rd w size (.slice A m c) n cs) {k : Nat} (hk : k < n) :
    ∃ b o, A = some ⟨b, o, none⟩ ∧ ∀ i, i < size → ∃ u, cs[k * size + i]? = some u ∧ w.cell? ⟨b, o + (k * size + i), none⟩ = some u := by
  obtain ⟨h1, A', c', h2, h3, h4, h5, h6⟩ := h
  simp only [Value.slice.injEq] at h2
  obtain ⟨rfl, rfl, rfl⟩ := h2
  cases A with
  | none => have := h5 rfl; omega
  | some a =>
    obtain ⟨hs, hc⟩ := h6 a rfl
    refine ⟨a.block, a.off, by cases a; simp at hs; subst hs; rfl, fun i hi => ?_⟩
    have hlt : k * size + i < cs.length := by
      rw [h1]; have : (k + 1) * size ≤ m * size := Nat.mul_le_mul_right _ hk
      rw [Nat.add_mul] at this; omega
    exact ⟨cs[k * size + i], List.getElem?_eq_getElem hlt, hc _ _ (List.getElem?_eq_getElem hlt)⟩

/-- What is owned is read. -/
theorem rd_of_own {w : World} {base : Nat} {e : TypeId} {size : Nat} {v : Value} {n : Nat} {xs : List Value} (h : w.ownsRow base e size v n xs) : Rd w size v n xs := by
  refine ⟨h.1, ?_⟩
  rcases h.2 with ⟨rfl, rfl⟩ | ⟨g, cap, cur, rfl, hb, hg, hc, hm, hs, ht⟩
  · exact ⟨none, 0, rfl, Nat.le_refl _, Nat.zero_le _, fun _ => rfl, fun a ha => by cases ha⟩
  · refine ⟨some ⟨g, 0, none⟩, cap, rfl, hc, hm, (fun h => by cases h), fun a ha => ?_⟩
    cases ha
    refine ⟨rfl, fun j u hj => ?_⟩
    rw [Nat.zero_add, cell_of_row w g j cur e (0, 0) hg]
    rw [← ht, List.getElem?_take] at hj
    split at hj
    · simpa using hj
    · cases hj

/-- The cells of texts; of pairs of texts. -/
def strs (l : List B) : List Value := l.map fun s => .string (ofL s)
def pairs (l : List (B × B)) : List Value := l.flatMap fun h => [.string (ofL h.1), .string (ofL h.2)]
def bytesV (l : B) : List Value := l.map fun c => .int .u8 c.toNat
theorem strs_len (l : List B) : (strs l).length = l.length := by simp [strs]
theorem bytesV_len (l : B) : (bytesV l).length = l.length := by simp [bytesV]
theorem strs_snoc (l : List B) (s : B) : strs (l ++ [s]) = strs l ++ [.string (ofL s)] := by simp [strs]
theorem bytesV_append (l m : B) : bytesV (l ++ m) = bytesV l ++ bytesV m := by simp [bytesV]
theorem strs_at {l : List B} {k : Nat} {s : B} (h : l[k]? = some s) : (strs l)[k]? = some (.string (ofL s)) := by simp [strs, h]
theorem bytesV_at {l : B} {k : Nat} {c : UInt8} (h : l[k]? = some c) : (bytesV l)[k]? = some (.int .u8 c.toNat) := by simp [bytesV, h]
/-- Elements of the three kinds, by place. -/
theorem Rd.strAt {w : World} {A : Option Addr} {c m : Nat} {l : List B} (h : Rd w 1 (.slice A m c) l.length (strs l)) {k : Nat} {s : B} (hk : l[k]? = some s) :
    ∃ b o, A = some ⟨b, o, none⟩ ∧ w.cell? ⟨b, o + k, none⟩ = some (.string (ofL s)) := by
  obtain ⟨b, o, hA, hc⟩ := h.at (List.getElem?_eq_some_iff.1 hk).1
  obtain ⟨u, h1, h2⟩ := hc 0 (by decide)
  rw [Nat.mul_one, Nat.add_zero] at h1 h2
  rw [strs_at hk] at h1
  cases h1
  exact ⟨b, o, hA, h2⟩
theorem Rd.byteAt {w : World} {A : Option Addr} {c m : Nat} {l : B} (h : Rd w 1 (.slice A m c) l.length (bytesV l)) {k : Nat} {x : UInt8} (hk : l[k]? = some x) :
    ∃ b o, A = some ⟨b, o, none⟩ ∧ w.cell? ⟨b, o + k, none⟩ = some (.int .u8 x.toNat) := by
  obtain ⟨b, o, hA, hc⟩ := h.at (List.getElem?_eq_some_iff.1 hk).1
  obtain ⟨u, h1, h2⟩ := hc 0 (by decide)
  rw [Nat.mul_one, Nat.add_zero] at h1 h2
  rw [bytesV_at hk] at h1
  cases h1
  exact ⟨b, o, hA, h2⟩
theorem oneCell_str (s : ByteArray) : ∀ u ∈ [Value.string s], u.oneCell' = true := by intro u hu; simp at hu; subst hu; rfl
theorem oneCell_bytes (l : B) : ∀ u ∈ bytesV l, u.oneCell' = true := by intro u hu; simp [bytesV] at hu; obtain ⟨c, _, rfl⟩ := hu; rfl

theorem Rd.shape {w : World} {size : Nat} {v : Value} {n : Nat} {cs : List Value} (h : Rd w size v n cs) : ∃ A c, v = .slice A n c := by
  obtain ⟨_, A, c, h, _⟩ := h; exact ⟨A, c, h⟩

theorem below_drewN (B : Nat) (w : World) (n : Nat) : Below B w (w.drewN n) := ⟨rfl, rfl, rfl, Nat.le_refl _, fun _ _ => rfl⟩

theorem _root_.Go.RowKit.Below.next {w a b : World} (h : Below w.heap.size w a) (k : Below a.heap.size a b) : Below w.heap.size w b := h.trans (k.mono h.size)
theorem own_below {w w' : World} {base : Nat} {e : TypeId} {size : Nat} {v : Value} {n : Nat} {xs : List Value} (h : w.ownsRow base e size v n xs) (hb : Below w.heap.size w w') : w'.ownsRow base e size v n xs :=
  h.kept (row := none) ⟨hb.os, hb.tape, hb.output, hb.size, fun k hk _ => hb.block k hk⟩ (by cases v.ownBlock <;> simp)

/-- A slice type's element, as the program's table has it. -/
def Row (P : Program) (t e : TypeId) (z : Value) (size bytes : Nat) : Prop :=
  P.underlying t = some (.slice e) ∧ (∃ i, P.info? e = some i ∧ i.zero = some z ∧ i.size = size ∧ i.bytes = bytes) ∧ z.cells.size = size ∧ 0 < size ∧ 0 < bytes

theorem cells_new {w0 : World} {e : TypeId} {news : List Value} (j : Nat) (u : Value) (h : news[j]? = some u) :
    (w0.alloc (.cells news.toArray e)).cell? ((⟨w0.heap.size, 0, none⟩ : Addr).add j) = some u := by
  have hadd : (⟨w0.heap.size, 0, none⟩ : Addr).add j = ⟨w0.heap.size, j, none⟩ := by unfold Addr.add; split <;> simp_all
  rw [hadd, World.cell?_alloc_mark]; simpa using h

/-- 'append(b, s...)', s a text. -/
theorem wpList_pushStr {P : Program} (w : World) {ops : Array Oper} {rest : List Oper} {o : Oper} {a : Act} {Q : Exit → Act → World → Prop} (hgd : o.guard = none) (sl x : Operand) (t u : TypeId)
    (ho : o.op = .call { callee := .builtin .append, args := #[sl, x], argTypes := #[t, u] })
    (base : Nat) {e : TypeId} (hrow : Row P t e (.int .u8 0) 1 1) (hu : P.underlying u = some .string)
    (v : Value) (l : B) (hs : a.eval sl = v) (hown : w.ownsRow base e 1 v l.length (bytesV l)) (s : ByteArray) (hx : a.eval x = .string s)
    (hbytes : l.length + s.size ≤ 140737488355328) (hbase : base ≤ w.heap.size)
    (h : ∀ v' w', w'.ownsRow base e 1 v' (l ++ s.toList).length (bytesV (l ++ s.toList)) → w.grownBy w' v.ownBlock → Below base w w' → wpList P ops Q rest (a.put o.dst v') w') : wpList P ops Q (o :: rest) a w := by
  obtain ⟨ht, ⟨i, hi, hz, hsize, hby⟩, hzs, hsz, hbz⟩ := hrow
  refine Lib.wpList_append_own_string w hgd sl x t u ho base e i ht hu hi hz hsize hby v _ _ hs hown s hx (by unfold maxLen; omega) hbytes hbase fun v' w' h2 h3 h4 => ?_
  refine h v' w' ?_ h3 ((Below.refl base w).grown h3 hbase fun k hk => (hown.lt k hk).1)
  have hc : Lib.strCells s = bytesV s.toList := by unfold Lib.strCells bytesV; rw [toL_eq]
  rw [List.length_append, len_toL, bytesV_append, ← hc]
  exact h2

/-- '[]byte(s)': what lies there reads as the text's bytes. -/
theorem rd_bytes {w : World} {s : ByteArray} {cap : Nat} {e : TypeId} {fr : Nat × Nat} (hc : s.size ≤ cap) (hm : cap ≤ maxLen) :
    Rd (w.alloc (.cells (bytesRow s cap) e fr)) 1 (.slice (some ⟨w.heap.size, 0, none⟩) s.size cap) s.size (bytesV s.toList) := by
  refine ⟨by rw [bytesV_len, len_toL]; omega, _, _, rfl, hc, hm, (fun h => by cases h), fun a ha => ?_⟩
  cases ha
  refine ⟨rfl, fun j u hj => ?_⟩
  have hlt : j < s.data.size := by
    have := (List.getElem?_eq_some_iff.1 hj).1
    rw [bytesV_len, len_toL] at this; exact this
  rw [Nat.zero_add, World.cell?_alloc_mark, bytesRow_at s cap j hlt]
  have h2 := bytesV_at (get_eq s j hlt)
  rw [h2] at hj
  exact hj
/-- The same, the length under another name, a draw behind it. -/
theorem rd_bytes' {w wc : World} {s : ByteArray} {n : Nat} {e : TypeId} {fr : Nat × Nat} (hn : s.size = n) (hm : n ≤ 1099511627776) :
    Rd (w.alloc (.cells (bytesRow s (grownCap wc n 0 e)) e fr)).drew 1 (.slice (some ⟨w.heap.size, 0, none⟩) n (grownCap wc n 0 e)) s.toList.length (bytesV s.toList) := by
  subst hn
  rw [len_toL]
  exact rd_bytes (w := w) (grownCap_ge _ _ _ _) (grownCap_le_maxLen _ _ _ _ (by unfold maxLen; omega))
end Go.Proofs.YtigdjnfnkjfkmaaGreatDoor
namespace Go.Proofs.YtigdjnfnkjfkmaaGreatDoor
open Go.RowKit
set_option linter.unusedVariables false
set_option linter.unusedSimpArgs false
set_option maxRecDepth 100000

/-- Only blocks of F are written, or new ones. -/
structure Touch (F : Nat → Prop) (w w' : World) : Prop where
  os : w'.os = w.os
  tape : w'.tape = w.tape
  output : w'.output = w.output
  size : w.heap.size ≤ w'.heap.size
  block : ∀ k, k < w.heap.size → ¬ F k → w'.heap[k]? = w.heap[k]?

theorem Touch.refl (F : Nat → Prop) (w : World) : Touch F w w := ⟨rfl, rfl, rfl, Nat.le_refl _, fun _ _ _ => rfl⟩
theorem Touch.trans {F : Nat → Prop} {a b c : World} (h : Touch F a b) (k : Touch F b c) : Touch F a c :=
  ⟨k.os.trans h.os, k.tape.trans h.tape, k.output.trans h.output, Nat.le_trans h.size k.size, fun i hi hf => (k.block i (Nat.lt_of_lt_of_le hi h.size) hf).trans (h.block i hi hf)⟩
theorem Touch.mono {F G : Nat → Prop} {a b : World} (h : Touch F a b) (hg : ∀ k, k < a.heap.size → F k → G k) : Touch G a b :=
  ⟨h.os, h.tape, h.output, h.size, fun i hi hf => h.block i hi (fun k => hf (hg i hi k))⟩
theorem Touch.of_below {F : Nat → Prop} {a b : World} (h : Below a.heap.size a b) : Touch F a b := ⟨h.os, h.tape, h.output, h.size, fun i hi _ => h.block i hi⟩
theorem Touch.below {F : Nat → Prop} {B : Nat} {a b : World} (h : Touch F a b) (hB : ∀ k, k < B → ¬ F k) (hs : B ≤ a.heap.size) : Below B a b :=
  ⟨h.os, h.tape, h.output, h.size, fun k hk => h.block k (Nat.lt_of_lt_of_le hk hs) (hB k hk)⟩
theorem Touch.next {F : Nat → Prop} {a b c : World} (h : Touch F a b) (k : Below b.heap.size b c) : Touch F a c := h.trans (.of_below k)
theorem Touch.setCell {F : Nat → Prop} {a w : World} (h : Touch F a w) {p : Addr} (hp : F p.block) (u : Value) : Touch F a (w.setCell p u) := by
  refine h.trans ?_
  have hb := (Below.refl p.block w).setCell (p := p) (Nat.le_refl _) u
  refine ⟨hb.os, hb.tape, hb.output, hb.size, fun k hk hf => ?_⟩
  have hne : k ≠ p.block := fun e => hf (e ▸ hp)
  exact Go.Deep.blk_setCell_other w p u k hne
theorem Touch.grown {F : Nat → Prop} {a w w' : World} {row : Option Nat} (h : Touch F a w) (hg : w.grownBy w' row) (hr : ∀ k, row = some k → F k) : Touch F a w' :=
  h.trans ⟨hg.os, hg.tape, hg.output, hg.size, fun k hk hf => hg.block k hk (fun e => hf (hr k e.symm))⟩
theorem Touch.cell {F : Nat → Prop} {a b : World} (h : Touch F a b) {p : Addr} (hp : p.block < a.heap.size) (hf : ¬ F p.block) : b.cell? p = a.cell? p := World.cell?_of_block (h.block _ hp hf)
theorem own_touch {F : Nat → Prop} {w w' : World} {base : Nat} {e : TypeId} {size : Nat} {v : Value} {n : Nat} {xs : List Value} (h : w.ownsRow base e size v n xs) (ht : Touch F w w')
    (hf : ∀ k, v.ownBlock = some k → ¬ F k) : w'.ownsRow base e size v n xs := by
  rcases h.2 with ⟨rfl, rfl⟩ | ⟨g, cap, cur, rfl, hb, hg, hc, hm, hs, htk⟩
  · exact ⟨h.1, .inl ⟨rfl, rfl⟩⟩
  · refine ⟨h.1, .inr ⟨g, cap, cur, rfl, hb, ?_, hc, hm, hs, htk⟩⟩
    rw [ht.block g (by exact (Array.getElem?_eq_some_iff.1 hg).1) (hf g rfl)]; exact hg
theorem rd_touch {F : Nat → Prop} {w w' : World} {size : Nat} {v : Value} {n : Nat} {cs : List Value} (h : Rd w size v n cs) (ht : Touch F w w')
    (hf : ∀ a n c, v = .slice (some a) n c → ¬ F a.block) : Rd w' size v n cs := by
  obtain ⟨h1, A, c, rfl, h3, h4, h5, h6⟩ := h
  refine ⟨h1, A, c, rfl, h3, h4, h5, fun a ha => ⟨(h6 a ha).1, fun j u hj => ?_⟩⟩
  subst ha
  have hc := (h6 a rfl).2 j u hj
  rw [ht.cell (p := ⟨a.block, a.off + j, none⟩) (lt_of_cell hc) (hf a n c rfl)]; exact hc

theorem heap_set_own {w : World} {b : Nat} {cs : Array Value} {t : TypeId} {fz : Nat × Nat} (h : w.heap[b]? = some (.cells cs t fz)) (i : Nat) (u : Value) :
    (w.setCell ⟨b, i, none⟩ u).heap[b]? = some (.cells (cs.set! i u) t fz) := by
  simp only [World.setCell, Array.getElem?_modify, h, if_true, Option.map_some]; rfl
theorem getI (l : B) (i : Nat) (h : i < (ofL l).size) : (ofL l)[i] = l.getD i 0 := by
  have := get_eq (ofL l) i h
  rw [toL_ofL] at this; rw [List.getD_eq_getElem?_getD, this]; rfl
theorem idx_neg (c : UInt8) : ∀ l : B, Lib.indexByte l c < 0 ↔ l.contains c = false
  | [] => by simp [Lib.indexByte]
  | d :: r => by
    have ih := idx_neg c r
    unfold Lib.indexByte
    by_cases h : d = c
    · subst h; simp
    · have h1 : (d == c) = false := by simpa using h
      rw [h1]
      have h2 : (d :: r).contains c = r.contains c := by
        rw [List.contains_cons]; have : (c == d) = false := by rw [beq_eq_false_iff_ne]; exact fun e => h e.symm
        rw [this, Bool.false_or]
      rw [h2, ← ih]
      simp only [Bool.false_eq_true, if_false]
      have := Lib.indexByte_ge r c
      split
      · rename_i e; have e' : Lib.indexByte r c = -1 := by simpa using e
        omega
      · rename_i e; have e' : ¬ Lib.indexByte r c = -1 := by simpa using e
        omega
theorem ibyte_any (c : UInt8) (s : ByteArray) (w : World) :
    Calls Tryz.prog 110 #[.string s, .int .u8 c.toNat] w fun e w' => e = .returned (.int .i64 (Lib.indexByte s.toList c)) ∧ w' = w := by
  refine (Tryz.strings_IndexByte s c.toNat w).mono ?_
  rintro e w' ⟨rfl, rfl⟩
  refine ⟨?_, rfl⟩
  rw [← toL_eq]
  simp
end Go.Proofs.YtigdjnfnkjfkmaaGreatDoor

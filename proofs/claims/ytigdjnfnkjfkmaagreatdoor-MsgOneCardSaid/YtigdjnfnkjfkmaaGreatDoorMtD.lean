/- A message as a text (msg.Write). Conditions: the texts are small, the numbers are of 64 bits. -/
import Derived.Test.YtigdjnfnkjfkmaaGreatDoorMtC
namespace Go.Proofs.YtigdjnfnkjfkmaaGreatDoor
open Go.RowKit
set_option linter.unusedVariables false
set_option linter.unusedSimpArgs false
set_option maxRecDepth 100000

/-- 'append(xs, a, b, ..)' of an own slice, as one step of a region that draws its order. -/
theorem step_pushM {P : Program} {w0 : World} {ops : Array Oper} {o : Oper} {a : Act} {K : Act → World → Prop} {Q : Exit → Act → World → Prop} {E : Prop} (hgd : o.guard = none) (s x : Operand) (t : TypeId)
    (ho : o.op = .call { callee := .builtin .append, args := #[s, x], argTypes := #[t, t] })
    (base : Nat) {e : TypeId} {z : Value} {size bytes : Nat} (hrow : Row P t e z size bytes)
    (v : Value) (n m : Nat) (xs : List Value) (hs : a.eval s = v) (hown : w0.ownsRow base e size v n xs)
    (news : List Value) (g : Nat) (hx : a.eval x = .slice (some ⟨g, 0, none⟩) m m) (hg : g = w0.heap.size) (hl : news.length = m * size) (h1 : ∀ u ∈ news, u.oneCell' = true)
    (hbytes : (n + m) * bytes ≤ 140737488355328) (hbase : base ≤ w0.heap.size)
    (h : ∀ v' w', w'.ownsRow base e size v' (n + m) (xs ++ news) → Touch (fun k => v.ownBlock = some k) w0 w' → Lies w0 v v' → K (a.put o.dst v') w') :
    if Region.wanted o (yielded ops a.tmps) = true then Oper.wp P o a (w0.alloc (.cells news.toArray e)) K Q else E := by
  have hw : Region.wanted o (yielded ops a.tmps) = true := by simp [Region.wanted, hgd]
  rw [if_pos hw]
  subst hg
  obtain ⟨ht, ⟨i, hi, hz, hsize, hby⟩, hzs, hsz, hbz⟩ := hrow
  have hle : n + m ≤ (n + m) * bytes := Nat.le_mul_of_pos_right _ hbz
  obtain ⟨v', w', hr, h2, h3, h4, h5⟩ := run_append_own_at (P := P) (w0.alloc (.cells news.toArray e)) base t o.type e i z size bytes ht hi hz hsize hby hzs hsz v n xs (hown.alloc _) ⟨w0.heap.size, 0, none⟩ m m news hl cells_new h1 (by unfold maxLen; omega) hbytes (by simp; omega)
  unfold Oper.wp execOp
  simp only [ho, resolve, invoke, builtin, Sem.run_bind, Sem.run_pure, Result.andThen_ok, List.map_toArray, List.map_cons, List.map_nil, hs, hx, hr]
  exact h v' w' h2 (touch_push h3) (lies_of h5)
theorem rowP : Row Tryz.prog 53 56 (.agg #[.string ⟨#[]⟩, .int .i64 0, .int .i64 0, .string ⟨#[]⟩, .slice none 0 0, .slice none 0 0]) 6 96 :=
  ⟨Tryz.underlying53, info_parts (by kernel_rfl), rfl, by decide, by decide⟩
theorem own_empty (w : World) (e : TypeId) (size : Nat) : (w.alloc (.cells #[] e)).ownsRow w.heap.size e size (.slice (some ⟨w.heap.size, 0, none⟩) 0 0) 0 [] :=
  ⟨by simp, .inr ⟨w.heap.size, 0, #[], rfl, Nat.le_refl _, heap_alloc_new w _, Nat.le_refl _, Nat.zero_le _, by simp, by simp⟩⟩
theorem mem_lst {P : Nat → Prop} {w : World} {nm : B} {js : List J} {A : Option Addr} {n c : Nat} {l : List (B × J)} {cs : List Value} (h : RJ P w (listJ js) [.int .i64 4, .int .i64 0, .string ⟨#[]⟩, .slice none 0 0, .slice A n c]) (h2 : MemV P w l cs) : MemV P w ((nm, listJ js) :: l) (.string (ofL nm) :: .int .i64 4 :: .int .i64 0 :: .string ⟨#[]⟩ :: .slice none 0 0 :: .slice A n c :: cs) :=
  MemV.cons h h2
theorem wt_list (js : List J) : wtJ (listJ js) = 1 + wtsJ js := by unfold listJ; rw [wtJ]; simp
theorem wts_le {js : List J} {k : Nat} (h : ∀ v ∈ js, wtJ v ≤ k) : wtsJ js ≤ js.length * k := by
  induction js with
  | nil => simp [wtsJ]
  | cons v l ih =>
    rw [wtsJ, List.length_cons, Nat.add_mul]
    have := h v (by simp)
    have := ih (fun u hu => h u (by simp [hu]))
    omega
theorem wt_obj (l : List (B × J)) : wtJ (objJ l) = 1 + l.length + ((l.map (·.1)).map List.length).sum + wtsJ (l.map (·.2)) := by
  unfold objJ; rw [wtJ]; simp
theorem wt_item_le {x : Lo} (h : mayLo x = true) : wtJ (itemJ x) ≤ 2000 := by
  obtain ⟨h1, h2, h3⟩ := mayLo_parts h
  obtain ⟨g1, g2, g3, g4, g5, g6, g7⟩ := may_parts h3
  have := (name_len g3).1
  unfold itemJ
  rw [wt_obj]
  simp only [List.map_cons, List.map_nil, wtsJ, wt_num, wt_mut, List.length_cons, List.length_nil, List.sum_cons, List.sum_nil, idN, mN]
  omega
theorem wt_msg {m : Ms} (h : okMs m = true) : wtJ (msgJ m) ≤ 20000 := by
  have hlog : allB m.list = true → wtsJ (m.list.map logJ) ≤ 16000 ∧ wtsJ (m.list.map itemJ) ≤ 16000 := fun ha => by
    obtain ⟨a1, a2⟩ := all_parts ha
    have e1 := wts_le (js := m.list.map logJ) (k := 2000) (fun v hv => by obtain ⟨x, hx, rfl⟩ := List.mem_map.1 hv; exact wt_log_le (a1 x hx))
    have e2 := wts_le (js := m.list.map itemJ) (k := 2000) (fun v hv => by obtain ⟨x, hx, rfl⟩ := List.mem_map.1 hv; exact wt_item_le (a1 x hx))
    rw [List.length_map] at e1 e2
    have : m.list.length * 2000 ≤ 8 * 2000 := Nat.mul_le_mul_right _ a2
    omega
  unfold okMs at h
  unfold msgJ
  split
  · rename_i hk
    rw [if_pos hk] at h
    simp only [Bool.and_eq_true] at h
    have h1 := (name_len h.1.1.1.1.1.1.1).1
    have h2 := (hlog h.1.1.1.1.1.2).2
    rw [wt_obj]
    simp only [List.map_cons, List.map_nil, wtsJ, wt_txt, wt_list, List.length_cons, List.length_nil, List.sum_cons, List.sum_nil, typeN, clientN, listN, pushN]
    omega
  split
  · rw [wt_obj]
    simp only [List.map_cons, List.map_nil, wtsJ, wt_txt, wt_num, List.length_cons, List.length_nil, List.sum_cons, List.sum_nil, typeN, lastN, topN, pushedN]
    omega
  split
  · rename_i k1 k2 hk
    rw [if_neg k1, if_neg k2, if_pos hk] at h
    simp only [Bool.and_eq_true] at h
    have h1 := (name_len h.1.1.1.1.1).1
    rw [wt_obj]
    simp only [List.map_cons, List.map_nil, wtsJ, wt_txt, wt_num, List.length_cons, List.length_nil, List.sum_cons, List.sum_nil, typeN, clientN, cookieN, pullN]
    omega
  split
  · rename_i k1 k2 k3 hk
    rw [if_neg k1, if_neg k2, if_neg k3, if_pos hk] at h
    simp only [Bool.and_eq_true] at h
    have h2 := (hlog h.1.2).1
    rw [wt_obj]
    simp only [List.map_cons, List.map_nil, wtsJ, wt_txt, wt_num, wt_list, List.length_cons, List.length_nil, List.sum_cons, List.sum_nil, typeN, fromN, cookieN, lastN, topN, listN, patchN]
    omega
  · rw [wt_obj]
    simp only [List.map_cons, List.map_nil, wtsJ, wt_txt, wt_num, List.length_cons, List.length_nil, List.sum_cons, List.sum_nil, typeN, topN, pokeN]
    omega
/-- A message as a text, or none. -/
def writeB (m : Ms) : B := if okMs m = true then msgT m else []
theorem print_at {m : Ms} {w : World} {A1 A2 : Option Addr} {n1 c1 n2 c2 : Nat} (hm : okMs m = true) (hl : m.last ≤ 9223372036854775807) (hi : ∀ x ∈ m.list, x.id ≤ 9223372036854775807) (hG : Good w)
    (hR : RJ (fun b => b < w.heap.size) w (msgJ m) [.int .i64 5, .int .i64 0, .string ⟨#[]⟩, .slice A1 n1 c1, .slice A2 n2 c2]) :
    Calls Tryz.prog 28 #[.agg #[.int .i64 5, .int .i64 0, .string ⟨#[]⟩, .slice A1 n1 c1, .slice A2 n2 c2]] w fun e w' => e = .returned (.tuple #[.string (ofL (msgT m)), .int .i64 0]) ∧ Below w.heap.size w w' := by
  have hk : (msgJ m).kind = 5 ∧ (msgJ m).int = 0 ∧ (msgJ m).text = [] := by
    unfold msgJ
    split
    · exact ⟨rfl, rfl, rfl⟩
    split
    · exact ⟨rfl, rfl, rfl⟩
    split
    · exact ⟨rfl, rfl, rfl⟩
    split
    · exact ⟨rfl, rfl, rfl⟩
    · exact ⟨rfl, rfl, rfl⟩
  have h := Print_any (msgJ m) (.slice A1 n1 c1) (.slice A2 n2 c2) w (by rw [hk.1, hk.2.1, hk.2.2]; exact hR) (msg_fits hm hl hi).1.2 (by have := wt_msg hm; omega) hG.2.2 hG.2.1
  rw [hk.1, hk.2.1, hk.2.2, print_msg hm hl hi] at h
  exact h
theorem one_all (l : List Value) (h : (l.all fun u => u.oneCell') = true) : ∀ u ∈ l, u.oneCell' = true := List.all_eq_true.1 h
set_option maxHeartbeats 16000000 in
theorem mwrite_any (m : Ms) (A : Option Addr) (d : Nat) (w : World) (hR : RdP (fun b => b < w.heap.size) w 6 (.slice A m.list.length d) m.list.length (logsV m.list)) (hm : MsOK m) (hG : Good w) :
    Calls Tryz.prog 12 #[.agg #[.int .i64 m.kind, .string (ofL m.client), .int .i64 m.sfrom, .int .i64 m.cookie, .int .i64 m.last, .int .i64 m.top, .slice A m.list.length d]] w fun e w' => e = .returned (.tuple #[.string (ofL (writeB m)), .int .i64 (errM (okMs m))]) ∧ Below w.heap.size w w' := by
  have hKC := fun (w' : World) (hb : Below w.heap.size w w') => mcheck_any m A d w' ((hR.keep (below_keeps hb)).mono (by decide) (fun b h _ => Nat.lt_of_lt_of_le h hb.size)) hm
  have hKT := fun (w' : World) (hb : Below w.heap.size w w') => mlist_true m.list (.slice A m.list.length d) w' ((hR.keep (below_keeps hb)).mono (by decide) (fun b h _ => Nat.lt_of_lt_of_le h hb.size)) hm.len
  have hKF := fun (w' : World) (hb : Below w.heap.size w w') => mlist_false m.list (.slice A m.list.length d) w' ((hR.keep (below_keeps hb)).mono (by decide) (fun b h _ => Nat.lt_of_lt_of_le h hb.size)) hm.len
  have hla : m.last ≤ 9223372036854775807 := hm.last.2
  have hids : ∀ x ∈ m.list, x.id ≤ 9223372036854775807 := fun x hx => (hm.ids x hx).2
  have hwb : okMs m = true → writeB m = msgT m := fun h => by unfold writeB; rw [if_pos h]
  have hwn : okMs m = false → writeB m = [] := fun h => by unfold writeB; rw [h]; rfl
  have hkk : okMs m = true → m.kind = 1 ∨ m.kind = 2 ∨ m.kind = 3 ∨ m.kind = 4 ∨ m.kind = 5 := fun h => by
    unfold okMs at h
    by_cases h1 : m.kind = 1
    · exact .inl h1
    by_cases h2 : m.kind = 2
    · exact .inr (.inl h2)
    by_cases h3 : m.kind = 3
    · exact .inr (.inr (.inl h3))
    by_cases h4 : m.kind = 4
    · exact .inr (.inr (.inr (.inl h4)))
    by_cases h5 : m.kind = 5
    · exact .inr (.inr (.inr (.inr h5)))
    rw [if_neg h1, if_neg h2, if_neg h3, if_neg h4, if_neg h5] at h; cases h
  obtain ⟨k, c, f, q, a, t, l⟩ := m
  simp only at hKC hKT hKF hla hids hkk ⊢
  obtain ⟨n, hn⟩ : ∃ n, n = l.length := ⟨_, rfl⟩
  rw [← hn] at hKC hKT hKF ⊢
  have HG := Lib.hid hG
  have HLtrue := Lib.hid hKT
  have HLfalse := Lib.hid hKF
  have Hla := Lib.hid hla
  have Hid' := Lib.hid hids
  have HKC := Lib.hid hKC
  have Hwbf := Lib.hid hwb
  have Hwnf := Lib.hid hwn
  have Hkk := Lib.hid hkk
  clear hKC hKT hKF hla hids hwb hwn hkk hR hm hG hn
  have hall : ∃ W, W = w.alloc (.cells #[.int .i64 k, .string (ofL c), .int .i64 f, .int .i64 q, .int .i64 a, .int .i64 t, .slice A n d] 24) ∧ CB W w.heap.size #[.int .i64 k, .string (ofL c), .int .i64 f, .int .i64 q, .int .i64 a, .int .i64 t, .slice A n d] 24 ∧ Below w.heap.size w W := ⟨_, rfl, CB.new w _ _, (Below.refl _ _).alloc (Nat.le_refl _) _⟩
  obtain ⟨w1, hw1, hA, hb1⟩ := hall
  go_enter Tryz.func12, Tryz.ntmps12
  go_upto_region 1 with fail
  rw [← hw1]
  clear hw1
  have d0 : w1.cell? ⟨w.heap.size, 0, none⟩ = some (.int .i64 k) := hA.c 0 rfl
  have d1 : w1.cell? ⟨w.heap.size, 1, none⟩ = some (.string (ofL c)) := hA.c 1 rfl
  have d2 : w1.cell? ⟨w.heap.size, 2, none⟩ = some (.int .i64 f) := hA.c 2 rfl
  have d3 : w1.cell? ⟨w.heap.size, 3, none⟩ = some (.int .i64 q) := hA.c 3 rfl
  have d4 : w1.cell? ⟨w.heap.size, 4, none⟩ = some (.int .i64 a) := hA.c 4 rfl
  have d5 : w1.cell? ⟨w.heap.size, 5, none⟩ = some (.int .i64 t) := hA.c 5 rfl
  have d6 : w1.cell? ⟨w.heap.size, 6, none⟩ = some (.slice A n d) := hA.c 6 rfl
  have hzA := hA.lt
  have HB1 := Lib.hid hb1
  have hKc := HKC.out w1 hb1
  clear hA hb1
  cases hok : okMs ⟨k, c, f, q, a, t, l⟩ with
  | false =>
    rw [hok] at hKc
    have HK := Lib.hid hKc
    have Hwb := Lib.hid (Hwnf.out hok)
    have He := Lib.hid (show errM (okMs ⟨k, c, f, q, a, t, l⟩) = 130 by rw [hok]; rfl)
    have he1 : errM false = 130 := rfl
    clear hKc hok
    go_wp2_with fail
    (with_reducible refine HK.out.mono ?_); rintro e w2 ⟨rfl, hb2⟩
    have HB2 := Lib.hid (HB1.out.next hb2)
    clear hb2
    go_wp2_with fail
    go_ret2
    exact ⟨by rw [Hwb.out, He.out]; rfl, HB2.out⟩
  | true =>
    rw [hok] at hKc
    have HK := Lib.hid hKc
    have Hwb := Lib.hid (Hwbf.out hok)
    have He := Lib.hid (show errM (okMs ⟨k, c, f, q, a, t, l⟩) = 0 by rw [hok]; rfl)
    have Hok := Lib.hid hok
    have hkk := Hkk.out hok
    have he1 : errM true = 0 := rfl
    clear hKc hok
    go_wp2_with fail
    (with_reducible refine HK.out.mono ?_); rintro e w2 ⟨rfl, hb2⟩
    have HB2 := Lib.hid (HB1.out.next hb2)
    have d0 := Below.keeps hb2 d0; have d1 := Below.keeps hb2 d1; have d2 := Below.keeps hb2 d2; have d3 := Below.keeps hb2 d3; have d4 := Below.keeps hb2 d4; have d5 := Below.keeps hb2 d5; have d6 := Below.keeps hb2 d6
    have hzw : w.heap.size < w2.heap.size := Nat.lt_of_lt_of_le hzA hb2.size
    clear hb2 he1
    rcases hkk with k1 | k2 | k3 | k4 | k5
    · obtain rfl := k1
      have hmj : msgJ ⟨1, c, f, q, a, t, l⟩ = objJ [(typeN, txtJ pushN), (clientN, txtJ c), (listN, listJ (l.map itemJ))] := rfl
      have Hmj := Lib.hid hmj
      clear hmj
      go_upto_region 8 with fail
      have hb3 := (Below.refl w2.heap.size w2).alloc (Nat.le_refl _) (.cells #[] 56)
      have hO3 := own_empty w2 56 6
      have hz3 : w2.heap.size < (w2.alloc (.cells #[] 56)).heap.size := by rw [World.size_alloc]; exact Nat.lt_succ_self _
      have q1 := Below.keeps hb3 d1
      have q6 := Below.keeps hb3 d6
      have HB := Lib.hid (HB2.out.next hb3)
      generalize w2.alloc (.cells #[] 56) = w3 at *
      have hd := (Below.refl w3.heap.size w3).drew
      have q1 := Below.keeps hd q1
      have q6 := Below.keeps hd q6
      have HB := Lib.hid (HB.out.next hd)
      have HBC := Lib.hid hd
      have HO := Lib.hid hO3
      clear hb3 hO3 hd d0 d1 d2 d3 d4 d5 d6
      go_region_held3 (fun w' => w'.cell? ⟨w.heap.size, 1, none⟩ = some (.string (ofL c)) ∧ w'.cell? ⟨w.heap.size, 6, none⟩ = some (.slice A n d))
        (first | (with_reducible exact ⟨b1, b6⟩) | (with_reducible exact ⟨a1, a6⟩) | (with_reducible exact ⟨q1, q6⟩))
        (first | (go_at_call 25; (with_reducible refine (mtext_any (⟨#[112, 117, 115, 104]⟩ : ByteArray) _).mono ?_); rintro e w9 ⟨rfl, hb9⟩; have q1 := Below.keeps hb9 q1; have q6 := Below.keeps hb9 q6; have HB := Lib.hid (HB.out.next hb9); have HBC := Lib.hid (HBC.out.next hb9)) | (go_at_call 25; (with_reducible refine (mtext_any (ofL c) _).mono ?_); rintro e w9 ⟨rfl, hb9⟩; have q1 := Below.keeps hb9 q1; have q6 := Below.keeps hb9 q6; have HB := Lib.hid (HB.out.next hb9); have HBC := Lib.hid (HBC.out.next hb9)) | (go_at_call 26; (with_reducible refine (HLfalse.out _ HB.out).mono ?_); rintro e w9 ⟨AQ, nq, cq, rfl, hQ', hb9⟩; have hQ := RJ.mono (Q := fun b => w2.heap.size < b ∧ b < w9.heap.size) (fun b hb hlt => ⟨Nat.lt_of_lt_of_le hz3 (Nat.le_trans HBC.out.size hb), hlt⟩) _ _ hQ'; have q1 := Below.keeps hb9 q1; have q6 := Below.keeps hb9 q6; have HB := Lib.hid (HB.out.next hb9); have HBC := Lib.hid (HBC.out.next hb9); have a1 := keeps_alloc q1 (.cells ([Value.string ⟨#[116, 121, 112, 101]⟩, .int .i64 3, .int .i64 0, .string ⟨#[112, 117, 115, 104]⟩, .slice none 0 0, .slice none 0 0, .string ⟨#[99, 108, 105, 101, 110, 116]⟩, .int .i64 3, .int .i64 0, .string (ofL c), .slice none 0 0, .slice none 0 0, .string ⟨#[108, 105, 115, 116]⟩, .int .i64 4, .int .i64 0, .string ⟨#[]⟩, .slice none 0 0, .slice AQ nq cq]).toArray 56); have a6 := keeps_alloc q6 (.cells ([Value.string ⟨#[116, 121, 112, 101]⟩, .int .i64 3, .int .i64 0, .string ⟨#[112, 117, 115, 104]⟩, .slice none 0 0, .slice none 0 0, .string ⟨#[99, 108, 105, 101, 110, 116]⟩, .int .i64 3, .int .i64 0, .string (ofL c), .slice none 0 0, .slice none 0 0, .string ⟨#[108, 105, 115, 116]⟩, .int .i64 4, .int .i64 0, .string ⟨#[]⟩, .slice none 0 0, .slice AQ nq cq]).toArray 56); have hO9 := own_below HO.out HBC.out; have hz9 := HBC.out.size) | (refine step_pushM (by rfl) _ _ _ (by rfl) w2.heap.size rowP (.slice (some ⟨w2.heap.size, 0, none⟩) 0 0) 0 3 [] (by rfl) hO9 [Value.string ⟨#[116, 121, 112, 101]⟩, .int .i64 3, .int .i64 0, .string ⟨#[112, 117, 115, 104]⟩, .slice none 0 0, .slice none 0 0, .string ⟨#[99, 108, 105, 101, 110, 116]⟩, .int .i64 3, .int .i64 0, .string (ofL c), .slice none 0 0, .slice none 0 0, .string ⟨#[108, 105, 115, 116]⟩, .int .i64 4, .int .i64 0, .string ⟨#[]⟩, .slice none 0 0, .slice AQ nq cq] _ (by rfl) rfl rfl (one_all _ rfl) (by omega) (by omega) ?_; intro v10 w10 hO10 hT10 hL10; obtain ⟨A10, c10, rfl⟩ := (rd_of_own hO10).shape; have b1 := touch_keeps (P := fun k => k < w2.heap.size) hT10 (fun k hk e => by cases e; exact Nat.lt_irrefl _ hk) _ _ _ hzw q1; have b6 := touch_keeps (P := fun k => k < w2.heap.size) hT10 (fun k hk e => by cases e; exact Nat.lt_irrefl _ hk) _ _ _ hzw q6))
      have HQ := RJ.keep (touch_keeps hT10 (fun b hb e => by cases e; exact Nat.lt_irrefl _ hb.1)) _ _ hQ
      have hs10 := hT10.size
      have HB10 := Lib.hid (HB.out.trans (hT10.below (B := w.heap.size) (fun k hk e => by have e' : w2.heap.size = k := Option.some.inj e; omega) (by omega)))
      have KO := mobject_any (fun b => w2.heap.size < b ∧ b < w9.heap.size) [(typeN, txtJ pushN), (clientN, txtJ c), (listN, listJ (l.map itemJ))] _ [Value.string ⟨#[116, 121, 112, 101]⟩, .int .i64 3, .int .i64 0, .string ⟨#[112, 117, 115, 104]⟩, .slice none 0 0, .slice none 0 0, .string ⟨#[99, 108, 105, 101, 110, 116]⟩, .int .i64 3, .int .i64 0, .string (ofL c), .slice none 0 0, .slice none 0 0, .string ⟨#[108, 105, 115, 116]⟩, .int .i64 4, .int .i64 0, .string ⟨#[]⟩, .slice none 0 0, .slice AQ nq cq] w10 ((own_rdp (P := fun b => w2.heap.size ≤ b) hO10 (fun _ h => h)).mono (by decide) (fun b _ h => h)) (show MemV _ _ _ [Value.string ⟨#[116, 121, 112, 101]⟩, .int .i64 3, .int .i64 0, .string ⟨#[112, 117, 115, 104]⟩, .slice none 0 0, .slice none 0 0, .string ⟨#[99, 108, 105, 101, 110, 116]⟩, .int .i64 3, .int .i64 0, .string (ofL c), .slice none 0 0, .slice none 0 0, .string ⟨#[108, 105, 115, 116]⟩, .int .i64 4, .int .i64 0, .string ⟨#[]⟩, .slice none 0 0, .slice AQ nq cq] from (mem_txt (mem_txt (mem_lst HQ mem_nil)))) (fun b h => by have := h.2; omega) (by show 3 ≤ 1000; decide)
      have HKO := Lib.hid KO
      clear KO hT10 hL10 hO10 hO9 hQ hQ' b1 a1 q1 b6 a6 q6 
      go_wp2_with fail
      (with_reducible refine HKO.out.mono ?_); rintro e w11 ⟨A1, n1, c1, A2, n2, c2, rfl, hR11, hb11⟩
      have HB11 := Lib.hid (HB10.out.next hb11)
      rw [← Hmj.out] at hR11
      have HPr := Lib.hid (print_at Hok.out Hla.out Hid'.out (HG.out.below HB11.out) (RJ.mono (Q := fun b => b < w11.heap.size) (fun b _ h => h) _ _ hR11))
      clear hR11 hb11
      go_wp2_with fail
      (with_reducible refine HPr.out.mono ?_); rintro e w12 ⟨rfl, hb12⟩
      have HB12 := Lib.hid (HB11.out.next hb12)
      clear hb12
      go_wp2_with fail
      go_ret2
      exact ⟨by rw [Hwb.out, He.out]; rfl, HB12.out⟩
    · obtain rfl := k2
      have hmj : msgJ ⟨2, c, f, q, a, t, l⟩ = objJ [(typeN, txtJ pushedN), (lastN, numJ a), (topN, numJ t)] := rfl
      have Hmj := Lib.hid hmj
      clear hmj
      go_upto_region 10 with fail
      have hb3 := (Below.refl w2.heap.size w2).alloc (Nat.le_refl _) (.cells #[] 56)
      have hO3 := own_empty w2 56 6
      have hz3 : w2.heap.size < (w2.alloc (.cells #[] 56)).heap.size := by rw [World.size_alloc]; exact Nat.lt_succ_self _
      have q4 := Below.keeps hb3 d4
      have q5 := Below.keeps hb3 d5
      have HB := Lib.hid (HB2.out.next hb3)
      generalize w2.alloc (.cells #[] 56) = w3 at *
      have hd := (Below.refl w3.heap.size w3).drew
      have q4 := Below.keeps hd q4
      have q5 := Below.keeps hd q5
      have HB := Lib.hid (HB.out.next hd)
      have HBC := Lib.hid hd
      have HO := Lib.hid hO3
      clear hb3 hO3 hd d0 d1 d2 d3 d4 d5 d6
      go_region_held3 (fun w' => w'.cell? ⟨w.heap.size, 4, none⟩ = some (.int .i64 a) ∧ w'.cell? ⟨w.heap.size, 5, none⟩ = some (.int .i64 t))
        (first | (with_reducible exact ⟨b4, b5⟩) | (with_reducible exact ⟨a4, a5⟩) | (with_reducible exact ⟨q4, q5⟩))
        (first | (go_at_call 25; (with_reducible refine (mtext_any (⟨#[112, 117, 115, 104, 101, 100]⟩ : ByteArray) _).mono ?_); rintro e w9 ⟨rfl, hb9⟩; have q4 := Below.keeps hb9 q4; have q5 := Below.keeps hb9 q5; have HB := Lib.hid (HB.out.next hb9); have HBC := Lib.hid (HBC.out.next hb9)) | (go_at_call 27; (with_reducible refine (mnumber_any a _).mono ?_); rintro e w9 ⟨rfl, hb9⟩; have q4 := Below.keeps hb9 q4; have q5 := Below.keeps hb9 q5; have HB := Lib.hid (HB.out.next hb9); have HBC := Lib.hid (HBC.out.next hb9)) | (go_at_call 27; (with_reducible refine (mnumber_any t _).mono ?_); rintro e w9 ⟨rfl, hb9⟩; have q4 := Below.keeps hb9 q4; have q5 := Below.keeps hb9 q5; have HB := Lib.hid (HB.out.next hb9); have HBC := Lib.hid (HBC.out.next hb9); have a4 := keeps_alloc q4 (.cells ([Value.string ⟨#[116, 121, 112, 101]⟩, .int .i64 3, .int .i64 0, .string ⟨#[112, 117, 115, 104, 101, 100]⟩, .slice none 0 0, .slice none 0 0, .string ⟨#[108, 97, 115, 116]⟩, .int .i64 2, .int .i64 a, .string ⟨#[]⟩, .slice none 0 0, .slice none 0 0, .string ⟨#[116, 111, 112]⟩, .int .i64 2, .int .i64 t, .string ⟨#[]⟩, .slice none 0 0, .slice none 0 0]).toArray 56); have a5 := keeps_alloc q5 (.cells ([Value.string ⟨#[116, 121, 112, 101]⟩, .int .i64 3, .int .i64 0, .string ⟨#[112, 117, 115, 104, 101, 100]⟩, .slice none 0 0, .slice none 0 0, .string ⟨#[108, 97, 115, 116]⟩, .int .i64 2, .int .i64 a, .string ⟨#[]⟩, .slice none 0 0, .slice none 0 0, .string ⟨#[116, 111, 112]⟩, .int .i64 2, .int .i64 t, .string ⟨#[]⟩, .slice none 0 0, .slice none 0 0]).toArray 56); have hO9 := own_below HO.out HBC.out; have hz9 := HBC.out.size) | (refine step_pushM (by rfl) _ _ _ (by rfl) w2.heap.size rowP (.slice (some ⟨w2.heap.size, 0, none⟩) 0 0) 0 3 [] (by rfl) hO9 [Value.string ⟨#[116, 121, 112, 101]⟩, .int .i64 3, .int .i64 0, .string ⟨#[112, 117, 115, 104, 101, 100]⟩, .slice none 0 0, .slice none 0 0, .string ⟨#[108, 97, 115, 116]⟩, .int .i64 2, .int .i64 a, .string ⟨#[]⟩, .slice none 0 0, .slice none 0 0, .string ⟨#[116, 111, 112]⟩, .int .i64 2, .int .i64 t, .string ⟨#[]⟩, .slice none 0 0, .slice none 0 0] _ (by rfl) rfl rfl (one_all _ rfl) (by omega) (by omega) ?_; intro v10 w10 hO10 hT10 hL10; obtain ⟨A10, c10, rfl⟩ := (rd_of_own hO10).shape; have b4 := touch_keeps (P := fun k => k < w2.heap.size) hT10 (fun k hk e => by cases e; exact Nat.lt_irrefl _ hk) _ _ _ hzw q4; have b5 := touch_keeps (P := fun k => k < w2.heap.size) hT10 (fun k hk e => by cases e; exact Nat.lt_irrefl _ hk) _ _ _ hzw q5))
      have hs10 := hT10.size
      have HB10 := Lib.hid (HB.out.trans (hT10.below (B := w.heap.size) (fun k hk e => by have e' : w2.heap.size = k := Option.some.inj e; omega) (by omega)))
      have KO := mobject_any (fun b => w2.heap.size < b ∧ b < w9.heap.size) [(typeN, txtJ pushedN), (lastN, numJ a), (topN, numJ t)] _ [Value.string ⟨#[116, 121, 112, 101]⟩, .int .i64 3, .int .i64 0, .string ⟨#[112, 117, 115, 104, 101, 100]⟩, .slice none 0 0, .slice none 0 0, .string ⟨#[108, 97, 115, 116]⟩, .int .i64 2, .int .i64 a, .string ⟨#[]⟩, .slice none 0 0, .slice none 0 0, .string ⟨#[116, 111, 112]⟩, .int .i64 2, .int .i64 t, .string ⟨#[]⟩, .slice none 0 0, .slice none 0 0] w10 ((own_rdp (P := fun b => w2.heap.size ≤ b) hO10 (fun _ h => h)).mono (by decide) (fun b _ h => h)) (show MemV _ _ _ [Value.string ⟨#[116, 121, 112, 101]⟩, .int .i64 3, .int .i64 0, .string ⟨#[112, 117, 115, 104, 101, 100]⟩, .slice none 0 0, .slice none 0 0, .string ⟨#[108, 97, 115, 116]⟩, .int .i64 2, .int .i64 a, .string ⟨#[]⟩, .slice none 0 0, .slice none 0 0, .string ⟨#[116, 111, 112]⟩, .int .i64 2, .int .i64 t, .string ⟨#[]⟩, .slice none 0 0, .slice none 0 0] from (mem_txt (mem_num (mem_num mem_nil)))) (fun b h => by have := h.2; omega) (by show 3 ≤ 1000; decide)
      have HKO := Lib.hid KO
      clear KO hT10 hL10 hO10 hO9 b4 a4 q4 b5 a5 q5 
      go_wp2_with fail
      (with_reducible refine HKO.out.mono ?_); rintro e w11 ⟨A1, n1, c1, A2, n2, c2, rfl, hR11, hb11⟩
      have HB11 := Lib.hid (HB10.out.next hb11)
      rw [← Hmj.out] at hR11
      have HPr := Lib.hid (print_at Hok.out Hla.out Hid'.out (HG.out.below HB11.out) (RJ.mono (Q := fun b => b < w11.heap.size) (fun b _ h => h) _ _ hR11))
      clear hR11 hb11
      go_wp2_with fail
      (with_reducible refine HPr.out.mono ?_); rintro e w12 ⟨rfl, hb12⟩
      have HB12 := Lib.hid (HB11.out.next hb12)
      clear hb12
      go_wp2_with fail
      go_ret2
      exact ⟨by rw [Hwb.out, He.out]; rfl, HB12.out⟩
    · obtain rfl := k3
      have hmj : msgJ ⟨3, c, f, q, a, t, l⟩ = objJ [(typeN, txtJ pullN), (clientN, txtJ c), (cookieN, numJ q)] := rfl
      have Hmj := Lib.hid hmj
      clear hmj
      go_upto_region 12 with fail
      have hb3 := (Below.refl w2.heap.size w2).alloc (Nat.le_refl _) (.cells #[] 56)
      have hO3 := own_empty w2 56 6
      have hz3 : w2.heap.size < (w2.alloc (.cells #[] 56)).heap.size := by rw [World.size_alloc]; exact Nat.lt_succ_self _
      have q1 := Below.keeps hb3 d1
      have q3 := Below.keeps hb3 d3
      have HB := Lib.hid (HB2.out.next hb3)
      generalize w2.alloc (.cells #[] 56) = w3 at *
      have hd := (Below.refl w3.heap.size w3).drew
      have q1 := Below.keeps hd q1
      have q3 := Below.keeps hd q3
      have HB := Lib.hid (HB.out.next hd)
      have HBC := Lib.hid hd
      have HO := Lib.hid hO3
      clear hb3 hO3 hd d0 d1 d2 d3 d4 d5 d6
      go_region_held3 (fun w' => w'.cell? ⟨w.heap.size, 1, none⟩ = some (.string (ofL c)) ∧ w'.cell? ⟨w.heap.size, 3, none⟩ = some (.int .i64 q))
        (first | (with_reducible exact ⟨b1, b3⟩) | (with_reducible exact ⟨a1, a3⟩) | (with_reducible exact ⟨q1, q3⟩))
        (first | (go_at_call 25; (with_reducible refine (mtext_any (⟨#[112, 117, 108, 108]⟩ : ByteArray) _).mono ?_); rintro e w9 ⟨rfl, hb9⟩; have q1 := Below.keeps hb9 q1; have q3 := Below.keeps hb9 q3; have HB := Lib.hid (HB.out.next hb9); have HBC := Lib.hid (HBC.out.next hb9)) | (go_at_call 25; (with_reducible refine (mtext_any (ofL c) _).mono ?_); rintro e w9 ⟨rfl, hb9⟩; have q1 := Below.keeps hb9 q1; have q3 := Below.keeps hb9 q3; have HB := Lib.hid (HB.out.next hb9); have HBC := Lib.hid (HBC.out.next hb9)) | (go_at_call 27; (with_reducible refine (mnumber_any q _).mono ?_); rintro e w9 ⟨rfl, hb9⟩; have q1 := Below.keeps hb9 q1; have q3 := Below.keeps hb9 q3; have HB := Lib.hid (HB.out.next hb9); have HBC := Lib.hid (HBC.out.next hb9); have a1 := keeps_alloc q1 (.cells ([Value.string ⟨#[116, 121, 112, 101]⟩, .int .i64 3, .int .i64 0, .string ⟨#[112, 117, 108, 108]⟩, .slice none 0 0, .slice none 0 0, .string ⟨#[99, 108, 105, 101, 110, 116]⟩, .int .i64 3, .int .i64 0, .string (ofL c), .slice none 0 0, .slice none 0 0, .string ⟨#[99, 111, 111, 107, 105, 101]⟩, .int .i64 2, .int .i64 q, .string ⟨#[]⟩, .slice none 0 0, .slice none 0 0]).toArray 56); have a3 := keeps_alloc q3 (.cells ([Value.string ⟨#[116, 121, 112, 101]⟩, .int .i64 3, .int .i64 0, .string ⟨#[112, 117, 108, 108]⟩, .slice none 0 0, .slice none 0 0, .string ⟨#[99, 108, 105, 101, 110, 116]⟩, .int .i64 3, .int .i64 0, .string (ofL c), .slice none 0 0, .slice none 0 0, .string ⟨#[99, 111, 111, 107, 105, 101]⟩, .int .i64 2, .int .i64 q, .string ⟨#[]⟩, .slice none 0 0, .slice none 0 0]).toArray 56); have hO9 := own_below HO.out HBC.out; have hz9 := HBC.out.size) | (refine step_pushM (by rfl) _ _ _ (by rfl) w2.heap.size rowP (.slice (some ⟨w2.heap.size, 0, none⟩) 0 0) 0 3 [] (by rfl) hO9 [Value.string ⟨#[116, 121, 112, 101]⟩, .int .i64 3, .int .i64 0, .string ⟨#[112, 117, 108, 108]⟩, .slice none 0 0, .slice none 0 0, .string ⟨#[99, 108, 105, 101, 110, 116]⟩, .int .i64 3, .int .i64 0, .string (ofL c), .slice none 0 0, .slice none 0 0, .string ⟨#[99, 111, 111, 107, 105, 101]⟩, .int .i64 2, .int .i64 q, .string ⟨#[]⟩, .slice none 0 0, .slice none 0 0] _ (by rfl) rfl rfl (one_all _ rfl) (by omega) (by omega) ?_; intro v10 w10 hO10 hT10 hL10; obtain ⟨A10, c10, rfl⟩ := (rd_of_own hO10).shape; have b1 := touch_keeps (P := fun k => k < w2.heap.size) hT10 (fun k hk e => by cases e; exact Nat.lt_irrefl _ hk) _ _ _ hzw q1; have b3 := touch_keeps (P := fun k => k < w2.heap.size) hT10 (fun k hk e => by cases e; exact Nat.lt_irrefl _ hk) _ _ _ hzw q3))
      have hs10 := hT10.size
      have HB10 := Lib.hid (HB.out.trans (hT10.below (B := w.heap.size) (fun k hk e => by have e' : w2.heap.size = k := Option.some.inj e; omega) (by omega)))
      have KO := mobject_any (fun b => w2.heap.size < b ∧ b < w9.heap.size) [(typeN, txtJ pullN), (clientN, txtJ c), (cookieN, numJ q)] _ [Value.string ⟨#[116, 121, 112, 101]⟩, .int .i64 3, .int .i64 0, .string ⟨#[112, 117, 108, 108]⟩, .slice none 0 0, .slice none 0 0, .string ⟨#[99, 108, 105, 101, 110, 116]⟩, .int .i64 3, .int .i64 0, .string (ofL c), .slice none 0 0, .slice none 0 0, .string ⟨#[99, 111, 111, 107, 105, 101]⟩, .int .i64 2, .int .i64 q, .string ⟨#[]⟩, .slice none 0 0, .slice none 0 0] w10 ((own_rdp (P := fun b => w2.heap.size ≤ b) hO10 (fun _ h => h)).mono (by decide) (fun b _ h => h)) (show MemV _ _ _ [Value.string ⟨#[116, 121, 112, 101]⟩, .int .i64 3, .int .i64 0, .string ⟨#[112, 117, 108, 108]⟩, .slice none 0 0, .slice none 0 0, .string ⟨#[99, 108, 105, 101, 110, 116]⟩, .int .i64 3, .int .i64 0, .string (ofL c), .slice none 0 0, .slice none 0 0, .string ⟨#[99, 111, 111, 107, 105, 101]⟩, .int .i64 2, .int .i64 q, .string ⟨#[]⟩, .slice none 0 0, .slice none 0 0] from (mem_txt (mem_txt (mem_num mem_nil)))) (fun b h => by have := h.2; omega) (by show 3 ≤ 1000; decide)
      have HKO := Lib.hid KO
      clear KO hT10 hL10 hO10 hO9 b1 a1 q1 b3 a3 q3 
      go_wp2_with fail
      (with_reducible refine HKO.out.mono ?_); rintro e w11 ⟨A1, n1, c1, A2, n2, c2, rfl, hR11, hb11⟩
      have HB11 := Lib.hid (HB10.out.next hb11)
      rw [← Hmj.out] at hR11
      have HPr := Lib.hid (print_at Hok.out Hla.out Hid'.out (HG.out.below HB11.out) (RJ.mono (Q := fun b => b < w11.heap.size) (fun b _ h => h) _ _ hR11))
      clear hR11 hb11
      go_wp2_with fail
      (with_reducible refine HPr.out.mono ?_); rintro e w12 ⟨rfl, hb12⟩
      have HB12 := Lib.hid (HB11.out.next hb12)
      clear hb12
      go_wp2_with fail
      go_ret2
      exact ⟨by rw [Hwb.out, He.out]; rfl, HB12.out⟩
    · obtain rfl := k4
      have hmj : msgJ ⟨4, c, f, q, a, t, l⟩ = objJ [(typeN, txtJ patchN), (fromN, numJ f), (cookieN, numJ q), (lastN, numJ a), (topN, numJ t), (listN, listJ (l.map logJ))] := rfl
      have Hmj := Lib.hid hmj
      clear hmj
      go_upto_region 14 with fail
      have hb3 := (Below.refl w2.heap.size w2).alloc (Nat.le_refl _) (.cells #[] 56)
      have hO3 := own_empty w2 56 6
      have hz3 : w2.heap.size < (w2.alloc (.cells #[] 56)).heap.size := by rw [World.size_alloc]; exact Nat.lt_succ_self _
      have q2 := Below.keeps hb3 d2
      have q3 := Below.keeps hb3 d3
      have q4 := Below.keeps hb3 d4
      have q5 := Below.keeps hb3 d5
      have q6 := Below.keeps hb3 d6
      have HB := Lib.hid (HB2.out.next hb3)
      generalize w2.alloc (.cells #[] 56) = w3 at *
      have hd := (Below.refl w3.heap.size w3).drew
      have q2 := Below.keeps hd q2
      have q3 := Below.keeps hd q3
      have q4 := Below.keeps hd q4
      have q5 := Below.keeps hd q5
      have q6 := Below.keeps hd q6
      have HB := Lib.hid (HB.out.next hd)
      have HBC := Lib.hid hd
      have HO := Lib.hid hO3
      clear hb3 hO3 hd d0 d1 d2 d3 d4 d5 d6
      go_region_held3 (fun w' => w'.cell? ⟨w.heap.size, 2, none⟩ = some (.int .i64 f) ∧ w'.cell? ⟨w.heap.size, 3, none⟩ = some (.int .i64 q) ∧ w'.cell? ⟨w.heap.size, 4, none⟩ = some (.int .i64 a) ∧ w'.cell? ⟨w.heap.size, 5, none⟩ = some (.int .i64 t) ∧ w'.cell? ⟨w.heap.size, 6, none⟩ = some (.slice A n d))
        (first | (with_reducible exact ⟨b2, b3, b4, b5, b6⟩) | (with_reducible exact ⟨a2, a3, a4, a5, a6⟩) | (with_reducible exact ⟨q2, q3, q4, q5, q6⟩))
        (first | (go_at_call 25; (with_reducible refine (mtext_any (⟨#[112, 97, 116, 99, 104]⟩ : ByteArray) _).mono ?_); rintro e w9 ⟨rfl, hb9⟩; have q2 := Below.keeps hb9 q2; have q3 := Below.keeps hb9 q3; have q4 := Below.keeps hb9 q4; have q5 := Below.keeps hb9 q5; have q6 := Below.keeps hb9 q6; have HB := Lib.hid (HB.out.next hb9); have HBC := Lib.hid (HBC.out.next hb9)) | (go_at_call 27; (with_reducible refine (mnumber_any f _).mono ?_); rintro e w9 ⟨rfl, hb9⟩; have q2 := Below.keeps hb9 q2; have q3 := Below.keeps hb9 q3; have q4 := Below.keeps hb9 q4; have q5 := Below.keeps hb9 q5; have q6 := Below.keeps hb9 q6; have HB := Lib.hid (HB.out.next hb9); have HBC := Lib.hid (HBC.out.next hb9)) | (go_at_call 27; (with_reducible refine (mnumber_any q _).mono ?_); rintro e w9 ⟨rfl, hb9⟩; have q2 := Below.keeps hb9 q2; have q3 := Below.keeps hb9 q3; have q4 := Below.keeps hb9 q4; have q5 := Below.keeps hb9 q5; have q6 := Below.keeps hb9 q6; have HB := Lib.hid (HB.out.next hb9); have HBC := Lib.hid (HBC.out.next hb9)) | (go_at_call 27; (with_reducible refine (mnumber_any a _).mono ?_); rintro e w9 ⟨rfl, hb9⟩; have q2 := Below.keeps hb9 q2; have q3 := Below.keeps hb9 q3; have q4 := Below.keeps hb9 q4; have q5 := Below.keeps hb9 q5; have q6 := Below.keeps hb9 q6; have HB := Lib.hid (HB.out.next hb9); have HBC := Lib.hid (HBC.out.next hb9)) | (go_at_call 27; (with_reducible refine (mnumber_any t _).mono ?_); rintro e w9 ⟨rfl, hb9⟩; have q2 := Below.keeps hb9 q2; have q3 := Below.keeps hb9 q3; have q4 := Below.keeps hb9 q4; have q5 := Below.keeps hb9 q5; have q6 := Below.keeps hb9 q6; have HB := Lib.hid (HB.out.next hb9); have HBC := Lib.hid (HBC.out.next hb9)) | (go_at_call 26; (with_reducible refine (HLtrue.out _ HB.out).mono ?_); rintro e w9 ⟨AQ, nq, cq, rfl, hQ', hb9⟩; have hQ := RJ.mono (Q := fun b => w2.heap.size < b ∧ b < w9.heap.size) (fun b hb hlt => ⟨Nat.lt_of_lt_of_le hz3 (Nat.le_trans HBC.out.size hb), hlt⟩) _ _ hQ'; have q2 := Below.keeps hb9 q2; have q3 := Below.keeps hb9 q3; have q4 := Below.keeps hb9 q4; have q5 := Below.keeps hb9 q5; have q6 := Below.keeps hb9 q6; have HB := Lib.hid (HB.out.next hb9); have HBC := Lib.hid (HBC.out.next hb9); have a2 := keeps_alloc q2 (.cells ((Value.string ⟨#[116, 121, 112, 101]⟩ :: .int .i64 3 :: .int .i64 0 :: .string ⟨#[112, 97, 116, 99, 104]⟩ :: .slice none 0 0 :: .slice none 0 0 :: .string ⟨#[102, 114, 111, 109]⟩ :: .int .i64 2 :: .int .i64 f :: .string ⟨#[]⟩ :: .slice none 0 0 :: .slice none 0 0 :: .string ⟨#[99, 111, 111, 107, 105, 101]⟩ :: .int .i64 2 :: .int .i64 q :: .string ⟨#[]⟩ :: .slice none 0 0 :: .slice none 0 0 :: .string ⟨#[108, 97, 115, 116]⟩ :: .int .i64 2 :: .int .i64 a :: .string ⟨#[]⟩ :: .slice none 0 0 :: .slice none 0 0 :: .string ⟨#[116, 111, 112]⟩ :: .int .i64 2 :: .int .i64 t :: .string ⟨#[]⟩ :: .slice none 0 0 :: .slice none 0 0 :: .string ⟨#[108, 105, 115, 116]⟩ :: .int .i64 4 :: .int .i64 0 :: .string ⟨#[]⟩ :: .slice none 0 0 :: .slice AQ nq cq :: [] : List Value)).toArray 56); have a3 := keeps_alloc q3 (.cells ((Value.string ⟨#[116, 121, 112, 101]⟩ :: .int .i64 3 :: .int .i64 0 :: .string ⟨#[112, 97, 116, 99, 104]⟩ :: .slice none 0 0 :: .slice none 0 0 :: .string ⟨#[102, 114, 111, 109]⟩ :: .int .i64 2 :: .int .i64 f :: .string ⟨#[]⟩ :: .slice none 0 0 :: .slice none 0 0 :: .string ⟨#[99, 111, 111, 107, 105, 101]⟩ :: .int .i64 2 :: .int .i64 q :: .string ⟨#[]⟩ :: .slice none 0 0 :: .slice none 0 0 :: .string ⟨#[108, 97, 115, 116]⟩ :: .int .i64 2 :: .int .i64 a :: .string ⟨#[]⟩ :: .slice none 0 0 :: .slice none 0 0 :: .string ⟨#[116, 111, 112]⟩ :: .int .i64 2 :: .int .i64 t :: .string ⟨#[]⟩ :: .slice none 0 0 :: .slice none 0 0 :: .string ⟨#[108, 105, 115, 116]⟩ :: .int .i64 4 :: .int .i64 0 :: .string ⟨#[]⟩ :: .slice none 0 0 :: .slice AQ nq cq :: [] : List Value)).toArray 56); have a4 := keeps_alloc q4 (.cells ((Value.string ⟨#[116, 121, 112, 101]⟩ :: .int .i64 3 :: .int .i64 0 :: .string ⟨#[112, 97, 116, 99, 104]⟩ :: .slice none 0 0 :: .slice none 0 0 :: .string ⟨#[102, 114, 111, 109]⟩ :: .int .i64 2 :: .int .i64 f :: .string ⟨#[]⟩ :: .slice none 0 0 :: .slice none 0 0 :: .string ⟨#[99, 111, 111, 107, 105, 101]⟩ :: .int .i64 2 :: .int .i64 q :: .string ⟨#[]⟩ :: .slice none 0 0 :: .slice none 0 0 :: .string ⟨#[108, 97, 115, 116]⟩ :: .int .i64 2 :: .int .i64 a :: .string ⟨#[]⟩ :: .slice none 0 0 :: .slice none 0 0 :: .string ⟨#[116, 111, 112]⟩ :: .int .i64 2 :: .int .i64 t :: .string ⟨#[]⟩ :: .slice none 0 0 :: .slice none 0 0 :: .string ⟨#[108, 105, 115, 116]⟩ :: .int .i64 4 :: .int .i64 0 :: .string ⟨#[]⟩ :: .slice none 0 0 :: .slice AQ nq cq :: [] : List Value)).toArray 56); have a5 := keeps_alloc q5 (.cells ((Value.string ⟨#[116, 121, 112, 101]⟩ :: .int .i64 3 :: .int .i64 0 :: .string ⟨#[112, 97, 116, 99, 104]⟩ :: .slice none 0 0 :: .slice none 0 0 :: .string ⟨#[102, 114, 111, 109]⟩ :: .int .i64 2 :: .int .i64 f :: .string ⟨#[]⟩ :: .slice none 0 0 :: .slice none 0 0 :: .string ⟨#[99, 111, 111, 107, 105, 101]⟩ :: .int .i64 2 :: .int .i64 q :: .string ⟨#[]⟩ :: .slice none 0 0 :: .slice none 0 0 :: .string ⟨#[108, 97, 115, 116]⟩ :: .int .i64 2 :: .int .i64 a :: .string ⟨#[]⟩ :: .slice none 0 0 :: .slice none 0 0 :: .string ⟨#[116, 111, 112]⟩ :: .int .i64 2 :: .int .i64 t :: .string ⟨#[]⟩ :: .slice none 0 0 :: .slice none 0 0 :: .string ⟨#[108, 105, 115, 116]⟩ :: .int .i64 4 :: .int .i64 0 :: .string ⟨#[]⟩ :: .slice none 0 0 :: .slice AQ nq cq :: [] : List Value)).toArray 56); have a6 := keeps_alloc q6 (.cells ((Value.string ⟨#[116, 121, 112, 101]⟩ :: .int .i64 3 :: .int .i64 0 :: .string ⟨#[112, 97, 116, 99, 104]⟩ :: .slice none 0 0 :: .slice none 0 0 :: .string ⟨#[102, 114, 111, 109]⟩ :: .int .i64 2 :: .int .i64 f :: .string ⟨#[]⟩ :: .slice none 0 0 :: .slice none 0 0 :: .string ⟨#[99, 111, 111, 107, 105, 101]⟩ :: .int .i64 2 :: .int .i64 q :: .string ⟨#[]⟩ :: .slice none 0 0 :: .slice none 0 0 :: .string ⟨#[108, 97, 115, 116]⟩ :: .int .i64 2 :: .int .i64 a :: .string ⟨#[]⟩ :: .slice none 0 0 :: .slice none 0 0 :: .string ⟨#[116, 111, 112]⟩ :: .int .i64 2 :: .int .i64 t :: .string ⟨#[]⟩ :: .slice none 0 0 :: .slice none 0 0 :: .string ⟨#[108, 105, 115, 116]⟩ :: .int .i64 4 :: .int .i64 0 :: .string ⟨#[]⟩ :: .slice none 0 0 :: .slice AQ nq cq :: [] : List Value)).toArray 56); have hO9 := own_below HO.out HBC.out; have hz9 := HBC.out.size) | (refine step_pushM (by rfl) _ _ _ (by rfl) w2.heap.size rowP (.slice (some ⟨w2.heap.size, 0, none⟩) 0 0) 0 6 [] (by rfl) hO9 (Value.string ⟨#[116, 121, 112, 101]⟩ :: .int .i64 3 :: .int .i64 0 :: .string ⟨#[112, 97, 116, 99, 104]⟩ :: .slice none 0 0 :: .slice none 0 0 :: .string ⟨#[102, 114, 111, 109]⟩ :: .int .i64 2 :: .int .i64 f :: .string ⟨#[]⟩ :: .slice none 0 0 :: .slice none 0 0 :: .string ⟨#[99, 111, 111, 107, 105, 101]⟩ :: .int .i64 2 :: .int .i64 q :: .string ⟨#[]⟩ :: .slice none 0 0 :: .slice none 0 0 :: .string ⟨#[108, 97, 115, 116]⟩ :: .int .i64 2 :: .int .i64 a :: .string ⟨#[]⟩ :: .slice none 0 0 :: .slice none 0 0 :: .string ⟨#[116, 111, 112]⟩ :: .int .i64 2 :: .int .i64 t :: .string ⟨#[]⟩ :: .slice none 0 0 :: .slice none 0 0 :: .string ⟨#[108, 105, 115, 116]⟩ :: .int .i64 4 :: .int .i64 0 :: .string ⟨#[]⟩ :: .slice none 0 0 :: .slice AQ nq cq :: [] : List Value) _ (by rfl) rfl rfl (one_all _ rfl) (by omega) (by omega) ?_; intro v10 w10 hO10 hT10 hL10; obtain ⟨A10, c10, rfl⟩ := (rd_of_own hO10).shape; have b2 := touch_keeps (P := fun k => k < w2.heap.size) hT10 (fun k hk e => by cases e; exact Nat.lt_irrefl _ hk) _ _ _ hzw q2; have b3 := touch_keeps (P := fun k => k < w2.heap.size) hT10 (fun k hk e => by cases e; exact Nat.lt_irrefl _ hk) _ _ _ hzw q3; have b4 := touch_keeps (P := fun k => k < w2.heap.size) hT10 (fun k hk e => by cases e; exact Nat.lt_irrefl _ hk) _ _ _ hzw q4; have b5 := touch_keeps (P := fun k => k < w2.heap.size) hT10 (fun k hk e => by cases e; exact Nat.lt_irrefl _ hk) _ _ _ hzw q5; have b6 := touch_keeps (P := fun k => k < w2.heap.size) hT10 (fun k hk e => by cases e; exact Nat.lt_irrefl _ hk) _ _ _ hzw q6))
      have HQ := RJ.keep (touch_keeps hT10 (fun b hb e => by cases e; exact Nat.lt_irrefl _ hb.1)) _ _ hQ
      have hs10 := hT10.size
      have HB10 := Lib.hid (HB.out.trans (hT10.below (B := w.heap.size) (fun k hk e => by have e' : w2.heap.size = k := Option.some.inj e; omega) (by omega)))
      have KO := mobject_any (fun b => w2.heap.size < b ∧ b < w9.heap.size) [(typeN, txtJ patchN), (fromN, numJ f), (cookieN, numJ q), (lastN, numJ a), (topN, numJ t), (listN, listJ (l.map logJ))] _ (Value.string ⟨#[116, 121, 112, 101]⟩ :: .int .i64 3 :: .int .i64 0 :: .string ⟨#[112, 97, 116, 99, 104]⟩ :: .slice none 0 0 :: .slice none 0 0 :: .string ⟨#[102, 114, 111, 109]⟩ :: .int .i64 2 :: .int .i64 f :: .string ⟨#[]⟩ :: .slice none 0 0 :: .slice none 0 0 :: .string ⟨#[99, 111, 111, 107, 105, 101]⟩ :: .int .i64 2 :: .int .i64 q :: .string ⟨#[]⟩ :: .slice none 0 0 :: .slice none 0 0 :: .string ⟨#[108, 97, 115, 116]⟩ :: .int .i64 2 :: .int .i64 a :: .string ⟨#[]⟩ :: .slice none 0 0 :: .slice none 0 0 :: .string ⟨#[116, 111, 112]⟩ :: .int .i64 2 :: .int .i64 t :: .string ⟨#[]⟩ :: .slice none 0 0 :: .slice none 0 0 :: .string ⟨#[108, 105, 115, 116]⟩ :: .int .i64 4 :: .int .i64 0 :: .string ⟨#[]⟩ :: .slice none 0 0 :: .slice AQ nq cq :: [] : List Value) w10 ((own_rdp (P := fun b => w2.heap.size ≤ b) hO10 (fun _ h => h)).mono (by decide) (fun b _ h => h)) (show MemV _ _ _ (Value.string ⟨#[116, 121, 112, 101]⟩ :: .int .i64 3 :: .int .i64 0 :: .string ⟨#[112, 97, 116, 99, 104]⟩ :: .slice none 0 0 :: .slice none 0 0 :: .string ⟨#[102, 114, 111, 109]⟩ :: .int .i64 2 :: .int .i64 f :: .string ⟨#[]⟩ :: .slice none 0 0 :: .slice none 0 0 :: .string ⟨#[99, 111, 111, 107, 105, 101]⟩ :: .int .i64 2 :: .int .i64 q :: .string ⟨#[]⟩ :: .slice none 0 0 :: .slice none 0 0 :: .string ⟨#[108, 97, 115, 116]⟩ :: .int .i64 2 :: .int .i64 a :: .string ⟨#[]⟩ :: .slice none 0 0 :: .slice none 0 0 :: .string ⟨#[116, 111, 112]⟩ :: .int .i64 2 :: .int .i64 t :: .string ⟨#[]⟩ :: .slice none 0 0 :: .slice none 0 0 :: .string ⟨#[108, 105, 115, 116]⟩ :: .int .i64 4 :: .int .i64 0 :: .string ⟨#[]⟩ :: .slice none 0 0 :: .slice AQ nq cq :: [] : List Value) from (mem_txt (mem_num (mem_num (mem_num (mem_num (mem_lst HQ mem_nil))))))) (fun b h => by have := h.2; omega) (by show 6 ≤ 1000; decide)
      have HKO := Lib.hid KO
      clear KO hT10 hL10 hO10 hO9 hQ hQ' b2 a2 q2 b3 a3 q3 b4 a4 q4 b5 a5 q5 b6 a6 q6 
      go_wp2_with fail
      (with_reducible refine HKO.out.mono ?_); rintro e w11 ⟨A1, n1, c1, A2, n2, c2, rfl, hR11, hb11⟩
      have HB11 := Lib.hid (HB10.out.next hb11)
      rw [← Hmj.out] at hR11
      have HPr := Lib.hid (print_at Hok.out Hla.out Hid'.out (HG.out.below HB11.out) (RJ.mono (Q := fun b => b < w11.heap.size) (fun b _ h => h) _ _ hR11))
      clear hR11 hb11
      go_wp2_with fail
      (with_reducible refine HPr.out.mono ?_); rintro e w12 ⟨rfl, hb12⟩
      have HB12 := Lib.hid (HB11.out.next hb12)
      clear hb12
      go_wp2_with fail
      go_ret2
      exact ⟨by rw [Hwb.out, He.out]; rfl, HB12.out⟩
    · obtain rfl := k5
      have hmj : msgJ ⟨5, c, f, q, a, t, l⟩ = objJ [(typeN, txtJ pokeN), (topN, numJ t)] := rfl
      have Hmj := Lib.hid hmj
      clear hmj
      go_upto_region 6 with fail
      have hb3 := (Below.refl w2.heap.size w2).alloc (Nat.le_refl _) (.cells #[] 56)
      have hO3 := own_empty w2 56 6
      have hz3 : w2.heap.size < (w2.alloc (.cells #[] 56)).heap.size := by rw [World.size_alloc]; exact Nat.lt_succ_self _
      have q5 := Below.keeps hb3 d5
      have HB := Lib.hid (HB2.out.next hb3)
      generalize w2.alloc (.cells #[] 56) = w3 at *
      have hd := (Below.refl w3.heap.size w3).drew
      have q5 := Below.keeps hd q5
      have HB := Lib.hid (HB.out.next hd)
      have HBC := Lib.hid hd
      have HO := Lib.hid hO3
      clear hb3 hO3 hd d0 d1 d2 d3 d4 d5 d6
      go_region_held3 (fun w' => w'.cell? ⟨w.heap.size, 5, none⟩ = some (.int .i64 t))
        (first | (with_reducible exact b5) | (with_reducible exact a5) | (with_reducible exact q5))
        (first | (go_at_call 25; (with_reducible refine (mtext_any (⟨#[112, 111, 107, 101]⟩ : ByteArray) _).mono ?_); rintro e w9 ⟨rfl, hb9⟩; have q5 := Below.keeps hb9 q5; have HB := Lib.hid (HB.out.next hb9); have HBC := Lib.hid (HBC.out.next hb9)) | (go_at_call 27; (with_reducible refine (mnumber_any t _).mono ?_); rintro e w9 ⟨rfl, hb9⟩; have q5 := Below.keeps hb9 q5; have HB := Lib.hid (HB.out.next hb9); have HBC := Lib.hid (HBC.out.next hb9); have a5 := keeps_alloc q5 (.cells ([Value.string ⟨#[116, 121, 112, 101]⟩, .int .i64 3, .int .i64 0, .string ⟨#[112, 111, 107, 101]⟩, .slice none 0 0, .slice none 0 0, .string ⟨#[116, 111, 112]⟩, .int .i64 2, .int .i64 t, .string ⟨#[]⟩, .slice none 0 0, .slice none 0 0]).toArray 56); have hO9 := own_below HO.out HBC.out; have hz9 := HBC.out.size) | (refine step_pushM (by rfl) _ _ _ (by rfl) w2.heap.size rowP (.slice (some ⟨w2.heap.size, 0, none⟩) 0 0) 0 2 [] (by rfl) hO9 [Value.string ⟨#[116, 121, 112, 101]⟩, .int .i64 3, .int .i64 0, .string ⟨#[112, 111, 107, 101]⟩, .slice none 0 0, .slice none 0 0, .string ⟨#[116, 111, 112]⟩, .int .i64 2, .int .i64 t, .string ⟨#[]⟩, .slice none 0 0, .slice none 0 0] _ (by rfl) rfl rfl (one_all _ rfl) (by omega) (by omega) ?_; intro v10 w10 hO10 hT10 hL10; obtain ⟨A10, c10, rfl⟩ := (rd_of_own hO10).shape; have b5 := touch_keeps (P := fun k => k < w2.heap.size) hT10 (fun k hk e => by cases e; exact Nat.lt_irrefl _ hk) _ _ _ hzw q5))
      have hs10 := hT10.size
      have HB10 := Lib.hid (HB.out.trans (hT10.below (B := w.heap.size) (fun k hk e => by have e' : w2.heap.size = k := Option.some.inj e; omega) (by omega)))
      have KO := mobject_any (fun b => w2.heap.size < b ∧ b < w9.heap.size) [(typeN, txtJ pokeN), (topN, numJ t)] _ [Value.string ⟨#[116, 121, 112, 101]⟩, .int .i64 3, .int .i64 0, .string ⟨#[112, 111, 107, 101]⟩, .slice none 0 0, .slice none 0 0, .string ⟨#[116, 111, 112]⟩, .int .i64 2, .int .i64 t, .string ⟨#[]⟩, .slice none 0 0, .slice none 0 0] w10 ((own_rdp (P := fun b => w2.heap.size ≤ b) hO10 (fun _ h => h)).mono (by decide) (fun b _ h => h)) (show MemV _ _ _ [Value.string ⟨#[116, 121, 112, 101]⟩, .int .i64 3, .int .i64 0, .string ⟨#[112, 111, 107, 101]⟩, .slice none 0 0, .slice none 0 0, .string ⟨#[116, 111, 112]⟩, .int .i64 2, .int .i64 t, .string ⟨#[]⟩, .slice none 0 0, .slice none 0 0] from (mem_txt (mem_num mem_nil))) (fun b h => by have := h.2; omega) (by show 2 ≤ 1000; decide)
      have HKO := Lib.hid KO
      clear KO hT10 hL10 hO10 hO9 b5 a5 q5 
      go_wp2_with fail
      (with_reducible refine HKO.out.mono ?_); rintro e w11 ⟨A1, n1, c1, A2, n2, c2, rfl, hR11, hb11⟩
      have HB11 := Lib.hid (HB10.out.next hb11)
      rw [← Hmj.out] at hR11
      have HPr := Lib.hid (print_at Hok.out Hla.out Hid'.out (HG.out.below HB11.out) (RJ.mono (Q := fun b => b < w11.heap.size) (fun b _ h => h) _ _ hR11))
      clear hR11 hb11
      go_wp2_with fail
      (with_reducible refine HPr.out.mono ?_); rintro e w12 ⟨rfl, hb12⟩
      have HB12 := Lib.hid (HB11.out.next hb12)
      clear hb12
      go_wp2_with fail
      go_ret2
      exact ⟨by rw [Hwb.out, He.out]; rfl, HB12.out⟩
end Go.Proofs.YtigdjnfnkjfkmaaGreatDoor

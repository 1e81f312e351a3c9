import Derived.Test.YtpcdhadfpeojkaaGreatPtb
namespace Go.Aw.Pl
open Go Go.Aw
set_option linter.unusedVariables false
set_option linter.unusedSimpArgs false
set_option maxHeartbeats 1000000
theorem cmd_ranges {c : Cmd} (h : CmdOk c = true) : (-1 ≤ c.1 ∧ c.1 ≤ 3) ∧ (0 ≤ c.2.1 ∧ c.2.1 ≤ 100000) ∧ (0 ≤ c.2.2.1 ∧ c.2.2.1 ≤ 100000) ∧ (0 ≤ c.2.2.2.1 ∧ c.2.2.2.1 ≤ 100000) ∧ (0 ≤ c.2.2.2.2.1 ∧ c.2.2.2.2.1 ≤ 100000) ∧ (0 ≤ c.2.2.2.2.2.1 ∧ c.2.2.2.2.2.1 ≤ 100000) := by
 rcases cmd_none h with h1 | h1
 · unfold CmdOk at h
   rw [if_pos h1] at h
   simp only [Bool.and_eq_true, decide_eq_true_eq] at h
   omega
 · have := cmd_facts h h1
   omega
theorem nums_cons {a : Int} {l : List Int} : nums (a :: l) = PutNum a ++ nums l := by simp [nums]
theorem nums_nil : nums [] = [] := rfl
theorem cmd_wr {s : R} {rest : List Int} {c : Cmd} (hc : CmdOk c = true) (h : Sees s (CmdBytes c ++ rest)) : ∃ u, spec_l7Cmd s = (u, c) ∧ Sees u rest ∧ u.1 = s.1 := by
 have hr := cmd_ranges hc
 have ht := CmdOk_texts hc
 unfold CmdBytes at h
 rw [if_pos hc, w64 (n := c.1 + 1) (by omega) (by omega)] at h
 simp only [List.append_eq, nums_cons, nums_nil, List.append_assoc, List.nil_append, List.append_nil] at h
 obtain ⟨s1, e1, h1, b1⟩ := num_wr (by omega) h
 obtain ⟨s2, e2, h2, b2⟩ := num_wr (by omega) h1
 obtain ⟨s3, e3, h3, b3⟩ := num_wr (by omega) h2
 obtain ⟨s4, e4, h4, b4⟩ := num_wr (by omega) h3
 obtain ⟨s5, e5, h5, b5⟩ := num_wr (by omega) h4
 obtain ⟨s6, e6, h6, b6⟩ := num_wr (by omega) h5
 obtain ⟨s7, e7, h7, b7⟩ := txt_wr (by omega) h6
 obtain ⟨s8, e8, h8, b8⟩ := txt_wr (by omega) h7
 refine ⟨s8, ?_, h8, by rw [b8, b7, b6, b5, b4, b3, b2, b1]⟩
 unfold spec_l7Cmd rCmd
 simp only [letB, e1, e2, e3, e4, e5, e6, e7, e8]
 rw [show c.1 + 1 - 1 = c.1 by omega, w64 (n := c.1) (by omega) (by omega)]
theorem ents_wr : (l : List Entry) → (s : R) → (rest : List Int) → (xs : List Entry) → (∀ e ∈ l, CmdOk e.2.1 = true ∧ 0 ≤ e.1 ∧ e.1 ≤ 100000) → Sees s (ents l ++ rest) → ∃ u, rEnts spec_l7Num spec_l7Cmd true l.length s xs = (u, xs ++ l) ∧ Sees u rest ∧ u.1 = s.1
 | [], s, rest, xs, _, h => ⟨s, by simp [rEnts], h, rfl⟩
 | e :: l, s, rest, xs, hl, h => by
  have he := hl e List.mem_cons_self
  simp only [ents, List.flatMap_cons, entB, List.append_assoc] at h
  obtain ⟨s1, e1, h1, b1⟩ := num_wr (by omega) h
  obtain ⟨s2, e2, h2, b2⟩ := cmd_wr he.1 h1
  obtain ⟨u, e3, h3, b3⟩ := ents_wr l s2 rest (xs ++ [e]) (fun x hx => hl x (List.mem_cons_of_mem _ hx)) h2
  refine ⟨u, ?_, h3, by rw [b3, b2, b1]⟩
  simp only [List.length_cons, rEnts, e1, e2]
  rw [if_pos h.1]
  have ee : (e.1, (e.2.1, ())) = e := rfl
  rw [ee, e3, List.append_assoc]; rfl
theorem kind_facts {r : Note} (h : kindOk r = true) : (1 ≤ r.1 ∧ r.1 ≤ 3) ∧ (-1 ≤ r.2.2.1 ∧ r.2.2.1 ≤ 4) := by
 unfold kindOk at h
 by_cases k1 : r.1 = 1
 · rw [if_pos k1] at h
   simp only [Bool.and_eq_true] at h
   have := within_hi h.1
   omega
 · rw [if_neg k1] at h
   by_cases k2 : r.1 = 2
   · rw [if_pos k2] at h
     simp only [Bool.and_eq_true, decide_eq_true_eq] at h
     omega
   · rw [if_neg k2] at h
     by_cases k3 : r.1 = 3
     · rw [if_pos k3] at h
       simp only [Bool.and_eq_true, decide_eq_true_eq] at h
       omega
     · rw [if_neg k3] at h; cases h
theorem note_facts {r : Note} (h : NoteOk r = true) : (1 ≤ r.1 ∧ r.1 ≤ 3) ∧ (0 ≤ r.2.1 ∧ r.2.1 ≤ 300) ∧ (-1 ≤ r.2.2.1 ∧ r.2.2.1 ≤ 4) ∧ (0 ≤ r.2.2.2.1 ∧ r.2.2.2.1 ≤ 300) ∧ (∀ e ∈ r.2.2.2.2.1, CmdOk e.2.1 = true ∧ 0 ≤ e.1 ∧ e.1 ≤ 100000) ∧ r.2.2.2.2.1.length ≤ 40 ∧ r.2.2.2.2.2.1.length ≤ 30000 := by
 have hl := NoteOk_len h
 have hc := NoteOk_cmds h
 unfold NoteOk at h
 simp only [Bool.and_eq_true, decide_eq_true_eq] at h
 obtain ⟨a1, a2, a3, a4, a5⟩ := h
 have a1 := within_hi a1
 have a2 := within_hi a2
 have hk := kind_facts a5
 refine ⟨hk.1, a1, hk.2, a2, fun e he => ⟨hc e he, ?_⟩, hl⟩
 simp only [spec_l9List, Bool.and_eq_true, List.all_eq_true] at a3
 have := a3.1 e he
 simp only [eOk, Bool.and_eq_true] at this
 have := within_hi this.1
 omega
theorem note_wr {s : R} {rest : List Int} {r : Note} (hr : NoteOk r = true) (h : Sees s (spec_l9Body r ++ rest)) : ∃ u, spec_l9Read s = (u, r) ∧ Sees u rest ∧ u.1 = s.1 := by
 obtain ⟨f1, f2, f3, f4, f5, f6, f7⟩ := note_facts hr
 unfold spec_l9Body headB at h
 rw [w64 (n := r.2.2.1 + 1) (by omega) (by omega)] at h
 simp only [List.append_assoc] at h
 obtain ⟨s1, e1, h1, b1⟩ := num_wr (by omega) h
 obtain ⟨s2, e2, h2, b2⟩ := num_wr (by omega) h1
 obtain ⟨s3, e3, h3, b3⟩ := num_wr (by omega) h2
 obtain ⟨s4, e4, h4, b4⟩ := num_wr (by omega) h3
 obtain ⟨s5, e5, h5, b5⟩ := num_wr (by omega) h4
 obtain ⟨s6, e6, h6, b6⟩ := ents_wr r.2.2.2.2.1 s5 _ [] f5 h5
 obtain ⟨s7, e7, h7, b7⟩ := txt_wr (by omega) h6
 refine ⟨s7, ?_, h7, by rw [b7, b6, b5, b4, b3, b2, b1]⟩
 unfold spec_l9Read rNote
 simp only [letB, e1, e2, e3, e4, e5, Int.toNat_natCast, e6, e7, List.nil_append]
 rw [show r.2.2.1 + 1 - 1 = r.2.2.1 by omega, w64 (n := r.2.2.1) (by omega) (by omega)]
theorem noteOf_of {b rest : List Int} {i : Int} {r : Note} (h0 : 0 ≤ i) (hr : NoteOk r = true) (h : b.drop i.toNat = NoteBytes r ++ rest) : spec_NoteOf b i = (r, (i + ((NoteBytes r).length : Int), true)) := by
 have hbl := body_len (NoteOk_len hr)
 unfold NoteBytes at h
 rw [if_pos hr] at h
 have hs : Sees (b, (i, (true, ()))) (PutNum ((spec_l9Body r).length : Int) ++ (spec_l9Body r ++ (sum4 (SumOf (spec_l9Body r)) ++ rest))) := by
  refine ⟨rfl, h0, ?_, by simpa only [List.append_assoc] using h⟩
  show i ≤ (b.length : Int)
  have := congrArg List.length h
  rw [List.length_drop] at this
  simp only [List.length_append, sum4, List.length_cons] at this
  omega
 have hg := GetNum_of h0 (n := ((spec_l9Body r).length : Int)) ⟨by omega, by omega⟩ hs.2.2.2
 have g1 := sees_go hs
 have g2 := sees_go g1.1
 simp only at g1 g2
 have hl4 : (sum4 (SumOf (spec_l9Body r))).length = 4 := rfl
 have hlen := g2.2
 rw [List.length_append, hl4] at hlen
 have hn : (NoteBytes r).length = (PutNum ((spec_l9Body r).length : Int)).length + (spec_l9Body r).length + 4 := by
  unfold NoteBytes; rw [if_pos hr, List.length_append, List.length_append, hl4]
 have d1 := g1.1.2.2.2
 have d2 := g2.1.2.2.2
 simp only at d1 d2
 unfold spec_NoteOf ofV
 rw [hg]
 simp only [if_true]
 rw [if_neg (by omega)]
 have hbody : dropTake (i + ((PutNum ((spec_l9Body r).length : Int)).length : Int)).toNat (i + ((PutNum ((spec_l9Body r).length : Int)).length : Int) + ((spec_l9Body r).length : Int)).toNat b = spec_l9Body r := by
  unfold dropTake
  rw [d1, show (i + ((PutNum ((spec_l9Body r).length : Int)).length : Int) + ((spec_l9Body r).length : Int)).toNat - (i + ((PutNum ((spec_l9Body r).length : Int)).length : Int)).toNat = (spec_l9Body r).length by omega, List.take_left]
 have hsum : dropTake (i + ((PutNum ((spec_l9Body r).length : Int)).length : Int) + ((spec_l9Body r).length : Int) + 4 - 4).toNat (i + ((PutNum ((spec_l9Body r).length : Int)).length : Int) + ((spec_l9Body r).length : Int) + 4).toNat b = sum4 (SumOf (spec_l9Body r)) := by
  unfold dropTake
  rw [show i + ((PutNum ((spec_l9Body r).length : Int)).length : Int) + ((spec_l9Body r).length : Int) + 4 - 4 = i + ((PutNum ((spec_l9Body r).length : Int)).length : Int) + ((spec_l9Body r).length : Int) by omega, d2,
   show (i + ((PutNum ((spec_l9Body r).length : Int)).length : Int) + ((spec_l9Body r).length : Int) + 4).toNat - (i + ((PutNum ((spec_l9Body r).length : Int)).length : Int) + ((spec_l9Body r).length : Int)).toNat = (sum4 (SumOf (spec_l9Body r))).length by rw [hl4]; omega, List.take_left]
 rw [hbody, hsum, if_pos rfl]
 have hin : Sees (spec_l9Body r, ((0 : Int), (true, ()))) (spec_l9Body r ++ []) := ⟨rfl, Int.le_refl _, by show (0 : Int) ≤ _; omega, by simp⟩
 obtain ⟨u, e1, e2, e3⟩ := note_wr hr hin
 have hu : u.2.1 = ((spec_l9Body r).length : Int) := by
  have h4 := e2.2.2.2
  have := congrArg List.length h4
  rw [List.length_drop, e3] at this
  have h3 := e2.2.2.1
  rw [e3] at h3
  simp only [List.length_nil] at this h3
  have := e2.2.1
  omega
 have hok : inOk (spec_l9Body r) = true := by
  unfold inOk eqI
  rw [e1, e2.1, hu, hr]; simp
 rw [if_pos hok, e1, hn]
 simp only [Prod.mk.injEq, and_true, true_and]
 omega
def noteBody (b : List Int) (v : Int × (Int × Bool)) : List Int := dropTake v.2.1.toNat (v.2.1 + v.1).toNat b
theorem noteOf_cases (b : List Int) (i : Int) : spec_NoteOf b i = (zNote, (0, false)) ∨ ((GetNum b i).2.2 = true ∧ (GetNum b i).1 ≤ (b.length : Int) - (GetNum b i).2.1 - 4 ∧ inOk (noteBody b (GetNum b i)) = true ∧
 spec_NoteOf b i = ((spec_l9Read (noteBody b (GetNum b i), (0, (true, ())))).2, ((GetNum b i).2.1 + (GetNum b i).1 + 4, true))) := by
 by_cases c1 : (GetNum b i).2.2 = true
 case neg => exact .inl (if_neg c1)
 by_cases c2 : (b.length : Int) - (GetNum b i).2.1 - 4 < (GetNum b i).1
 case pos => exact .inl ((if_pos c1).trans (if_pos c2))
 by_cases c3 : strOf (sum4 (SumOf (noteBody b (GetNum b i)))) = strOf (dropTake ((GetNum b i).2.1 + (GetNum b i).1 + 4 - 4).toNat ((GetNum b i).2.1 + (GetNum b i).1 + 4).toNat b)
 case neg => exact .inl ((if_pos c1).trans ((if_neg c2).trans (if_neg c3)))
 by_cases c4 : inOk (noteBody b (GetNum b i)) = true
 case neg => exact .inl ((if_pos c1).trans ((if_neg c2).trans ((if_pos c3).trans (if_neg c4))))
 exact .inr ⟨c1, by omega, c4, (if_pos c1).trans ((if_neg c2).trans ((if_pos c3).trans (if_pos c4)))⟩
theorem implOf_cases (b : List Int) (i : Int) : impl_NoteOf b i = (zNote, (0, false)) ∨ (strOf (NoteBytes (impl_NoteOf b i).1) = strOf (dropTake i.toNat (impl_NoteOf b i).2.1.toNat b)) := by
 by_cases c1 : (impl_GetNum b i).2.2 = true
 case neg => exact .inl (if_neg c1)
 by_cases c2 : (b.length : Int) - (impl_GetNum b i).2.1 - 4 < (impl_GetNum b i).1
 case pos => exact .inl ((if_pos c1).trans (if_pos c2))
 by_cases c3 : (impl_noteIn (noteBody b (impl_GetNum b i))).2 = true
 case neg => exact .inl ((if_pos c1).trans ((if_neg c2).trans (if_neg c3)))
 by_cases c4 : strOf (NoteBytes (impl_noteIn (noteBody b (impl_GetNum b i))).1) = strOf (dropTake i.toNat ((impl_GetNum b i).2.1 + (impl_GetNum b i).1 + 4).toNat b)
 case neg => exact .inl ((if_pos c1).trans ((if_neg c2).trans ((if_pos c3).trans (if_neg c4))))
 have e : impl_NoteOf b i = ((impl_noteIn (noteBody b (impl_GetNum b i))).1, ((impl_GetNum b i).2.1 + (impl_GetNum b i).1 + 4, true)) := (if_pos c1).trans ((if_neg c2).trans ((if_pos c3).trans (if_pos c4)))
 right
 rw [e]
 exact c4
theorem strOf_inj {a b : List Int} (ha : isBytes a = true) (hb : isBytes b = true) (h : strOf a = strOf b) : a = b := by
 rw [← bytesOf_strOf ha, ← bytesOf_strOf hb, h]
theorem noteOf_is {b : List Int} {i : Int} (hb : isBytes b = true) (hl : b.length ≤ 9223372036854775802) (h : (spec_NoteOf b i).2.2 = true) :
 0 ≤ i ∧ NoteOk (spec_NoteOf b i).1 = true ∧ i ≤ (spec_NoteOf b i).2.1 ∧ (spec_NoteOf b i).2.1 ≤ (b.length : Int) ∧ dropTake i.toNat (spec_NoteOf b i).2.1.toNat b = NoteBytes (spec_NoteOf b i).1 ∧ (spec_NoteOf b i).2.1 = i + ((NoteBytes (spec_NoteOf b i).1).length : Int) := by
 have hs := NoteOf_same i hb hl
 rcases noteOf_cases b i with h1 | ⟨c1, c2, c3, c4⟩
 · rw [h1] at h; cases h
 have g := GetNum_put hb c1
 have hok : NoteOk (spec_NoteOf b i).1 = true := by
  rw [c4]
  unfold inOk at c3
  simp only [Bool.and_eq_true] at c3
  exact c3.2.2
 have hpos : i ≤ (spec_NoteOf b i).2.1 ∧ (spec_NoteOf b i).2.1 ≤ (b.length : Int) := by
  rw [c4]
  simp only
  omega
 have hdt : dropTake i.toNat (spec_NoteOf b i).2.1.toNat b = NoteBytes (spec_NoteOf b i).1 := by
  rcases implOf_cases b i with h2 | h2
  · rw [← hs, h2] at h; cases h
  · rw [hs] at h2
    exact (strOf_inj (NoteBytes_bytes _) (isBytes_dropTake hb _ _) h2).symm
 refine ⟨g.1, hok, hpos.1, hpos.2, hdt, ?_⟩
 rw [← hdt, Go.Aw.dropTake_len (by omega) (by omega)]
 omega
theorem drop_of {b : List Int} {i j : Nat} (h : i ≤ j) (hj : j ≤ b.length) : b.drop i = dropTake i j b ++ b.drop j := by
 unfold dropTake
 conv => lhs; rw [← List.take_append_drop (j - i) (b.drop i), List.drop_drop, show i + (j - i) = j by omega]
namespace spec_l7Dent
def pre (c : Cur) (b : List Int) : Bool := curB c && (decide (b.length ≤ 1000000) && isBytes b)
abbrev wf (x0 : zt14) (x1 : (List Int)) : Prop := wfA [(.ref zk36 .f), (.val zk22 .o)] (x0, (x1, ()))
noncomputable def raw (x0 : zt14) (x1 : (List Int)) : Option ((zt14 × Unit) × zt13) :=
 if (spec_l1Below.pre x0 (IntKind.wrap .i64 (((List.length x1 : Nat) : Int) + (1 : Int)))) = true then
 letB (spec_l1Below x0 (IntKind.wrap .i64 (((List.length x1 : Nat) : Int) + (1 : Int)))) fun v1 =>
 if (spec_l1Below.pre v1.1 (5 : Int)) = true then
 letB (spec_l1Below v1.1 (5 : Int)) fun v2 =>
 if (decide (v2.2 = (0 : Int))) = true then
 if (decide ((0 : Int) ≤ (0 : Int))) = true then
 if (decide ((0 : Int) ≤ v1.2)) = true then
 if (decide (v1.2 ≤ ((List.length x1 : Nat) : Int))) = true then
 some ((v2.1, ()), ((dropTake (Int.toNat (0 : Int)) (Int.toNat v1.2) x1), ()))
 else
 none
 else
 none
 else
 none
 else
 if (decide (v2.2 = (1 : Int))) = true then
 if (decide ((0 : Int) ≤ (0 : Int))) = true then
 if (decide ((0 : Int) ≤ v1.2)) = true then
 if (decide (v1.2 ≤ ((List.length x1 : Nat) : Int))) = true then
 if (decide (List.length ([] : List Int) + List.length (dropTake (Int.toNat (0 : Int)) (Int.toNat v1.2) x1) ≤ lim)) = true then
 if (spec_l1PickInt.pre v2.1 ((0 : Int) :: ((1 : Int) :: ((128 : Int) :: ((3 : Int) :: ([] : List Int)))))) = true then
 if (decide ((0 : Int) ≤ v1.2)) = true then
 if (decide (v1.2 ≤ ((List.length x1 : Nat) : Int))) = true then
 if (decide (((List.length x1 : Nat) : Int) ≤ ((List.length x1 : Nat) : Int))) = true then
 letB (spec_l1PickInt v2.1 ((0 : Int) :: ((1 : Int) :: ((128 : Int) :: ((3 : Int) :: ([] : List Int)))))) fun v3 =>
 if (decide (List.length ((IntKind.wrap .u8 v3.2) :: ([] : List Int)) + List.length (dropTake (Int.toNat v1.2) (Int.toNat ((List.length x1 : Nat) : Int)) x1) ≤ lim)) = true then
 if (decide (List.length (List.append ([] : List Int) (dropTake (Int.toNat (0 : Int)) (Int.toNat v1.2) x1)) + List.length (List.append ((IntKind.wrap .u8 v3.2) :: ([] : List Int)) (dropTake (Int.toNat v1.2) (Int.toNat ((List.length x1 : Nat) : Int)) x1)) ≤ lim)) = true then
 some ((v3.1, ()), ((List.append (List.append ([] : List Int) (dropTake (Int.toNat (0 : Int)) (Int.toNat v1.2) x1)) (List.append ((IntKind.wrap .u8 v3.2) :: ([] : List Int)) (dropTake (Int.toNat v1.2) (Int.toNat ((List.length x1 : Nat) : Int)) x1))), ()))
 else
 none
 else
 none
 else
 none
 else
 none
 else
 none
 else
 none
 else
 none
 else
 none
 else
 none
 else
 none
 else
 some ((v2.1, ()), (x1, ()))
 else
 none
 else
 none
theorem wp (x0 : Cur) (x1 : List Int) (hp : pre x0 x1 = true) : Wp (raw x0 x1) (fun r => dP (bytesP (x1.length + 1)) (r.1.1, r.2.1)) := by
 unfold raw
 simp only [pre, Bool.and_eq_true, decide_eq_true_eq] at hp
 obtain ⟨hc, hl, hb⟩ := hp
 rw [w64 (n := (x1.length : Int) + 1) (by omega) (by omega)]
 refine W_if (show spec_l1Below.pre x0 _ = true from hc) (W_fact (spec_l1Below_sp hc) fun a ha => ?_)
 have a1 := ha.2.1; have a2 := ha.2.2 (by omega)
 refine W_if (show spec_l1Below.pre a.1 _ = true from ha.1) (W_fact (spec_l1Below_sp ha.1) fun k hk => W_ite (fun _ => ?_) fun _ => W_ite (fun _ => ?_) fun _ => W_some ⟨hk.1, by show x1.length ≤ x1.length + 1; omega, hb⟩)
 · refine W_if (by decide) (W_if (decide_eq_true a1) (W_if (decide_eq_true (by omega)) (W_some ⟨hk.1, ?_, isBytes_dropTake hb _ _⟩)))
   show (dropTake _ _ x1).length ≤ _
   simp only [dropTake, List.length_take, List.length_drop]; omega
 · have hpk : spec_l1PickInt.pre k.1 ((0 : Int) :: ((1 : Int) :: ((128 : Int) :: ((3 : Int) :: ([] : List Int))))) = true := pick_pre hk.1 (by decide)
   refine W_if (by decide) (W_if (decide_eq_true a1) (W_if (decide_eq_true (by omega)) (W_if (by simp only [decide_eq_true_eq, List.length_nil, dropTake, List.length_take, List.length_drop, lim]; omega) (W_if hpk (W_if (decide_eq_true a1) (W_if (decide_eq_true (by omega)) (W_if (decide_eq_true (Int.le_refl _)) (W_fact (spec_l1PickInt_sp hpk) fun d hd => W_if (by simp only [decide_eq_true_eq, List.length_cons, List.length_nil, dropTake, List.length_take, List.length_drop, lim]; omega) (W_if (by simp only [decide_eq_true_eq, List.append_eq, List.length_append, List.length_cons, List.length_nil, dropTake, List.length_take, List.length_drop, lim]; omega) (W_some ⟨hd.1, ?_, ?_⟩))))))))))
   · show (List.append (List.append ([] : List Int) (dropTake _ _ x1)) (List.append (_ :: ([] : List Int)) (dropTake _ _ x1))).length ≤ _
     simp only [List.append_eq, List.length_append, List.length_cons, List.length_nil, dropTake, List.length_take, List.length_drop]; omega
   · show isBytes (List.append (List.append ([] : List Int) (dropTake _ _ x1)) (List.append (_ :: ([] : List Int)) (dropTake _ _ x1))) = true
     simp only [List.append_eq, isBytes_app, isBytes_cons, isBytes_dropTake hb]
     rw [decide_eq_true (wrap8_byte _).1, decide_eq_true (wrap8_byte _).2]; rfl
noncomputable def val (x0 : Cur) (x1 : List Int) : Cur × List Int := ((got (raw x0 x1)).1.1, (got (raw x0 x1)).2.1)
theorem eq (x0 : Cur) (x1 : List Int) (_ : wf x0 x1) (hp : pre x0 x1 = true) : raw x0 x1 = some (((val x0 x1).1, ()), ((val x0 x1).2, ())) := (got_eq (wp x0 x1 hp)).1
end spec_l7Dent
noncomputable def spec_l7Dent (x0 : Cur) (x1 : List Int) : Cur × List Int := spec_l7Dent.val x0 x1
theorem spec_l7Dent_sp {x0 : Cur} {x1 : List Int} (hp : spec_l7Dent.pre x0 x1 = true) : dP (bytesP (x1.length + 1)) (spec_l7Dent x0 x1) := (got_eq (spec_l7Dent.wp x0 x1 hp)).2
theorem dent_pre {c : Cur} {b : List Int} (h : curB c = true) (hb : bytesP 1000000 b) : spec_l7Dent.pre c b = true := by
 simp only [spec_l7Dent.pre, Bool.and_eq_true, decide_eq_true_eq]; exact ⟨h, hb.1, hb.2⟩
noncomputable def laws_at (x : List Int) (i : Int) : Int := if i < (x.length : Int) then IntKind.wrap .i64 (x.getD i.toNat 0) else Int.tmod (IntKind.wrap .i64 (IntKind.wrap .i64 (i * 7) + (x.length : Int))) 256
namespace laws_at
def pre (_ : List Int) (i : Int) : Bool := decide (0 ≤ i)
abbrev wf (x0 : (List Int)) (x1 : Int) : Prop := wfA [(.val zk22 .f), (.val (.int .i64) .f)] (x0, (x1, ()))
noncomputable def raw (x0 : (List Int)) (x1 : Int) : Option (Unit × (Int × Unit)) :=
 if (decide (x1 < ((List.length x0 : Nat) : Int))) = true then
 if (decide ((0 : Int) ≤ x1)) = true then
 if (decide (x1 < ((List.length x0 : Nat) : Int))) = true then
 some ((), ((IntKind.wrap .i64 (List.getD x0 (Int.toNat x1) (0 : Int))), ()))
 else
 none
 else
 none
 else
 if (!(decide ((256 : Int) = (0 : Int)))) = true then
 some ((), ((Int.tmod (IntKind.wrap .i64 ((IntKind.wrap .i64 (x1 * (7 : Int))) + ((List.length x0 : Nat) : Int))) (256 : Int)), ()))
 else
 none
theorem eq (x0 : List Int) (x1 : Int) (_ : wf x0 x1) (hp : pre x0 x1 = true) : raw x0 x1 = some ((), (laws_at x0 x1, ())) := by
 simp only [pre, decide_eq_true_eq] at hp
 unfold raw laws_at
 by_cases h : x1 < (x0.length : Int)
 · rw [if_pos (decide_eq_true h), if_pos h]
   exact E_if (decide_eq_true hp) (E_if (decide_eq_true h) rfl)
 · rw [if_neg (by rw [decide_eq_true_eq]; exact h), if_neg h]
   exact E_if (by decide) rfl
end laws_at
theorem notesW_pre {b : List Int} (hb : isBytes b = true) (hl : b.length ≤ 1000000) : (n : Nat) → (i : Int) → (ns : List Note) → b.length - i.toNat ≤ n → 0 ≤ i → i ≤ (b.length : Int) →
 ∃ l, (notesW (spec_NoteOf b) b.length i ns).2 = ns ++ l ∧ i ≤ (notesW (spec_NoteOf b) b.length i ns).1 ∧ (notesW (spec_NoteOf b) b.length i ns).1 ≤ (b.length : Int) ∧ l.flatMap NoteBytes = dropTake i.toNat (notesW (spec_NoteOf b) b.length i ns).1.toNat b
 | 0, i, ns, hn, h0, h1 => by
  rw [notesW_end hb (by omega)]
  exact ⟨[], by simp, Int.le_refl _, h1, by simp [dropTake]⟩
 | n + 1, i, ns, hn, h0, h1 => by
  by_cases h : (spec_NoteOf b i).2.2 = true
  · have hp := NoteOf_pos hb h
    obtain ⟨g1, g2, g3, g4, g5, g6⟩ := noteOf_is hb (by omega) h
    rw [notesW_go hb h]
    obtain ⟨l, e1, e2, e3, e4⟩ := notesW_pre hb hl n (spec_NoteOf b i).2.1 (ns ++ [(spec_NoteOf b i).1]) (by omega) (by omega) g4
    refine ⟨(spec_NoteOf b i).1 :: l, by rw [e1, List.append_assoc]; rfl, by omega, e3, ?_⟩
    rw [List.flatMap_cons, e4, ← g5, dropTake_app (by omega) (by omega)]
  · rw [notesW_no h]
    exact ⟨[], by simp, Int.le_refl _, h1, by simp [dropTake]⟩
theorem cut_of {b : List Int} {c : Nat} {i : Int} (hb : isBytes b = true) (hl : b.length ≤ 1000000) (h : (spec_NoteOf (b.take c) i).2.2 = true) : spec_NoteOf b i = spec_NoteOf (b.take c) i := by
 obtain ⟨g1, g2, g3, g4, g5, g6⟩ := noteOf_is (isBytes_take hb c) (by rw [List.length_take]; omega) h
 rw [List.length_take] at g4
 have e : b.drop i.toNat = NoteBytes (spec_NoteOf (b.take c) i).1 ++ b.drop (spec_NoteOf (b.take c) i).2.1.toNat := by
  rw [drop_of (i := i.toNat) (j := (spec_NoteOf (b.take c) i).2.1.toNat) (by omega) (by omega), ← g5]
  congr 1
  unfold dropTake
  rw [List.drop_take, List.take_take, Nat.min_eq_left (by omega)]
 rw [noteOf_of g1 g2 e, ← g6]
 have : spec_NoteOf (b.take c) i = ((spec_NoteOf (b.take c) i).1, ((spec_NoteOf (b.take c) i).2.1, (spec_NoteOf (b.take c) i).2.2)) := rfl
 rw [this, h]
theorem of_cut {b : List Int} {c : Nat} {i : Int} (hb : isBytes b = true) (hl : b.length ≤ 1000000) (h : (spec_NoteOf b i).2.2 = true) (hc : (spec_NoteOf b i).2.1 ≤ (c : Int)) : spec_NoteOf (b.take c) i = spec_NoteOf b i := by
 obtain ⟨g1, g2, g3, g4, g5, g6⟩ := noteOf_is hb (by omega) h
 have e : (b.take c).drop i.toNat = NoteBytes (spec_NoteOf b i).1 ++ (b.take c).drop (spec_NoteOf b i).2.1.toNat := by
  rw [drop_of (i := i.toNat) (j := (spec_NoteOf b i).2.1.toNat) (by omega) (by rw [List.length_take]; omega), ← g5]
  congr 1
  unfold dropTake
  rw [List.drop_take, List.take_take, Nat.min_eq_left (by omega)]
 rw [noteOf_of g1 g2 e, ← g6]
 have : spec_NoteOf b i = ((spec_NoteOf b i).1, ((spec_NoteOf b i).2.1, (spec_NoteOf b i).2.2)) := rfl
 rw [this, h]
theorem torn {b : List Int} {c : Nat} (hb : isBytes b = true) (hl : b.length ≤ 1000000) (hcl : c ≤ b.length) : (n : Nat) → (i : Int) → (ns : List Note) → c - i.toNat ≤ n → 0 ≤ i → i ≤ (c : Int) →
 ∃ more, (notesW (spec_NoteOf b) b.length i ns).2 = (notesW (spec_NoteOf (b.take c)) (b.take c).length i ns).2 ++ more ∧ (notesW (spec_NoteOf (b.take c)) (b.take c).length i ns).1 ≤ (c : Int) ∧ ((notesW (spec_NoteOf b) b.length i ns).1 ≤ (c : Int) → more = []) := by
 intro n
 have hbc := isBytes_take hb c
 have hlc : (b.take c).length = c := by rw [List.length_take]; omega
 induction n with
 | zero =>
  intro i ns hn h0 h1
  rw [notesW_end hbc (i := i) (by omega)]
  obtain ⟨l, e1, e2, e3, e4⟩ := notesW_pre hb hl b.length i ns (by omega) h0 (by omega)
  refine ⟨l, e1, h1, fun h => ?_⟩
  by_cases hk : (spec_NoteOf b i).2.2 = true
  · have hp := NoteOf_pos hb hk
    obtain ⟨l2, f1, f2, f3, f4⟩ := notesW_pre hb hl b.length (spec_NoteOf b i).2.1 (ns ++ [(spec_NoteOf b i).1]) (by omega) (by omega) (noteOf_is hb (by omega) hk).2.2.2.1
    rw [notesW_go hb hk] at h
    omega
  · rw [notesW_no hk] at e1
    exact (List.append_right_eq_self.1 e1.symm)
 | succ n ih =>
  intro i ns hn h0 h1
  by_cases hk : (spec_NoteOf (b.take c) i).2.2 = true
  · have hsame := cut_of hb hl hk
    have hk2 : (spec_NoteOf b i).2.2 = true := by rw [hsame]; exact hk
    have hp := NoteOf_pos hbc hk
    have hg := noteOf_is hbc (by omega) hk
    rw [notesW_go hbc hk, notesW_go hb hk2, hsame]
    exact ih _ _ (by omega) (by omega) (by omega)
  · rw [notesW_no hk]
    obtain ⟨l, e1, e2, e3, e4⟩ := notesW_pre hb hl b.length i ns (by omega) h0 (by omega)
    refine ⟨l, e1, h1, fun h => ?_⟩
    by_cases hk2 : (spec_NoteOf b i).2.2 = true
    · exfalso
      obtain ⟨l2, f1, f2, f3, f4⟩ := notesW_pre hb hl b.length (spec_NoteOf b i).2.1 (ns ++ [(spec_NoteOf b i).1]) (by omega) (by have := NoteOf_pos hb hk2; omega) (noteOf_is hb (by omega) hk2).2.2.2.1
      rw [notesW_go hb hk2] at h
      have := of_cut (c := c) hb hl hk2 (by omega)
      rw [this] at hk
      exact hk hk2
    · rw [notesW_no hk2] at e1
      exact (List.append_right_eq_self.1 e1.symm)
namespace spec_DrawNotes
def pre (x : List Int) : Bool := small x
abbrev wf (x0 : (List Int)) : Prop := wfA [(.val zk22 .f)] (x0, ())
noncomputable def raw (x0 : (List Int)) : Option (Unit × zt13) :=
 if (spec_l1New.pre x0) = true then
 letB (spec_l1New x0) fun v1 =>
 if (spec_l9DrawBytes.pre v1) = true then
 letB (spec_l9DrawBytes v1) fun v2 =>
 if (spec_l7Dent.pre v2.1 v2.2) = true then
 letB (spec_l7Dent v2.1 v2.2) fun v3 =>
 some ((), (v3.2, ()))
 else
 none
 else
 none
 else
 none
theorem wp (x0 : List Int) (hp : pre x0 = true) : Wp (raw x0) (fun r => bytesP 200000 r.2.1) := by
 unfold raw
 refine W_if (show spec_l1New.pre x0 = true from hp) (W_fact (P := fun c : Cur => curB c = true) (spec_l1New_sp hp) fun a ha => W_if (show spec_l9DrawBytes.pre a = true from ha) (W_fact (spec_l9DrawBytes_sp ha) fun b hb => ?_))
 have l1 : b.2.length ≤ 123000 := hb.2.1
 have hbp : bytesP 1000000 b.2 := ⟨by omega, hb.2.2⟩
 exact W_if (dent_pre hb.1 hbp) (W_fact (spec_l7Dent_sp (dent_pre hb.1 hbp)) fun d hd => W_some ⟨by show d.2.length ≤ 200000; have := hd.2.1; omega, hd.2.2⟩)
noncomputable def val (x0 : List Int) : List Int := (got (raw x0)).2.1
theorem eq (x0 : List Int) (_ : wf x0) (hp : pre x0 = true) : raw x0 = some ((), (val x0, ())) := (got_eq (wp x0 hp)).1
end spec_DrawNotes
noncomputable def spec_DrawNotes (x0 : List Int) : List Int := spec_DrawNotes.val x0
theorem spec_DrawNotes_sp {x0 : List Int} (hp : small x0 = true) : bytesP 200000 (spec_DrawNotes x0) := (got_eq (spec_DrawNotes.wp x0 hp)).2
theorem at_range {x : List Int} {i : Int} (hb : isBytes x = true) (hl : x.length ≤ 16777216) (h0 : 0 ≤ i) (h1 : i ≤ 100) : 0 ≤ laws_at x i ∧ laws_at x i ≤ 255 := by
 unfold laws_at
 split
 · rename_i h
   have := isBytes_get hb (i := i.toNat) (by omega)
   rw [getD_get (by omega), w64 (by omega) (by omega)]
   exact this
 · rw [w64 (n := i * 7) (by omega) (by omega), w64 (n := i * 7 + (x.length : Int)) (by omega) (by omega), Int.tmod_eq_emod_of_nonneg (by omega)]
   omega
def laws_FnTorn (_ : List Int) : Bool := true
namespace laws_FnTorn
abbrev S10 : Type := ((List Int) × (Int × (Int × ((List Int) × ((List Note) × zt13)))))
abbrev O10 : Type := ((List Int) × (Int × ((List Int) × ((List Note) × zt13))))
abbrev S20 : Type := (Int × (Int × (Int × ((List Note) × ((List Note) × Unit)))))
abbrev O20 : Type := ((Bool × Unit) ⊕ (Int × (Int × ((List Note) × ((List Note) × Unit)))))
def pre10 : S10 → Bool := fun (_, _, x3, _, x5, x6, _) => decide (0 ≤ x3) && (decide (x3 ≤ (x5.length : Int)) && (decide (x5.length ≤ 100000) && decide ((x6.length : Int) ≤ 41000 * x3)))
def fn10 : S10 → O10 := fun (x1, x2, x3, x4, x5, x6, _) => (x1, x2, x4, x5, x6 ++ (x5.drop x3.toNat).flatMap NoteBytes, ())
def mu10 : S10 → Nat := fun (_, _, x3, _, x5, _) => x5.length - x3.toNat
noncomputable def pre20 : S20 → Bool := fun (_, _, x3, x4, x5, _) => decide (0 ≤ x3) && (decide (x3 ≤ (x5.length : Int)) && (decide (x5.length ≤ 100000) && B (∃ more, x4 = x5 ++ more)))
def fn20 : S20 → O20 := fun (x1, x2, _, x4, x5, _) => .inr (x1, x2, x4, x5, ())
def mu20 : S20 → Nat := fun (_, _, x3, _, x5, _) => x5.length - x3.toNat
noncomputable def raw10 (x1 : (List Int)) (x2 : Int) (x3 : Int) (x4 : (List Int)) (x5 : (List Note)) (x6 : (List Int)) : Option (((List Int) × (Int × (Int × ((List Int) × ((List Note) × zt13))))) ⊕ ((List Int) × (Int × ((List Int) × ((List Note) × zt13))))) :=
 if (decide (x3 < ((List.length x5 : Nat) : Int))) = true then
 if (decide ((0 : Int) ≤ x3)) = true then
 if (decide (x3 < ((List.length x5 : Nat) : Int))) = true then
 letB (NoteBytes (List.getD x5 (Int.toNat x3) zd37)) fun v1 =>
 if (decide (List.length x6 + List.length v1 ≤ lim)) = true then
 some (.inl (x1, (x2, ((IntKind.wrap .i64 (x3 + (1 : Int))), (x4, (x5, ((List.append x6 v1), ())))))))
 else
 none
 else
 none
 else
 none
 else
 some (.inr (x1, (x2, (x4, (x5, (x6, ()))))))
noncomputable def raw20 (x1 : Int) (x2 : Int) (x3 : Int) (x4 : (List Note)) (x5 : (List Note)) : Option ((Int × (Int × (Int × ((List Note) × ((List Note) × Unit))))) ⊕ ((Bool × Unit) ⊕ (Int × (Int × ((List Note) × ((List Note) × Unit)))))) :=
 if (decide (x3 < ((List.length x5 : Nat) : Int))) = true then
 if (decide ((0 : Int) ≤ x3)) = true then
 if (decide (x3 < ((List.length x5 : Nat) : Int))) = true then
 if (decide ((0 : Int) ≤ x3)) = true then
 if (decide (x3 < ((List.length x4 : Nat) : Int))) = true then
 letB (NoteBytes (List.getD x5 (Int.toNat x3) zd37)) fun v1 =>
 letB (NoteBytes (List.getD x4 (Int.toNat x3) zd37)) fun v2 =>
 if (!((strOf v1) == (strOf v2))) = true then
 some (.inr (.inl (false, ())))
 else
 some (.inl (x1, (x2, ((IntKind.wrap .i64 (x3 + (1 : Int))), (x4, (x5, ()))))))
 else
 none
 else
 none
 else
 none
 else
 none
 else
 some (.inr (.inr (x1, (x2, (x4, (x5, ()))))))
abbrev wf (x0 : (List Int)) : Prop := wfA [(.val zk22 .f)] (x0, ())
noncomputable def raw (x0 : (List Int)) : Option zt29 :=
 letB (laws_big x0) fun v1 =>
 if v1 = true then
  some ((), (true, ()))
 else
  if (spec_DrawNotes.pre x0) = true then
   letB (spec_DrawNotes x0) fun v2 =>
   if (impl_Notes.pre v2) = true then
    if (spec_Notes.pre v2) = true then
     letB (Notes v2) fun v3 =>
     letB (Notes v2) fun v4 =>
     if (!(decide (v3.2 = v4.2))) = true then
      some ((), (false, ()))
     else
      if (!(decide (((List.length v3.1 : Nat) : Int) = ((List.length v4.1 : Nat) : Int)))) = true then
       some ((), (false, ()))
      else
       if (laws_FnTorn.pre10 (x0, (v3.2, ((0 : Int), (v2, (v3.1, (([] : List Int), ()))))))) = true then
        if (decide ((0 : Int) ≤ (0 : Int))) = true then
         letB (laws_FnTorn.fn10 (x0, (v3.2, ((0 : Int), (v2, (v3.1, (([] : List Int), ()))))))) fun v5 =>
         if (decide ((0 : Int) ≤ v5.2.1)) = true then
          if (decide (v5.2.1 ≤ ((List.length v5.2.2.1 : Nat) : Int))) = true then
           if (!((strOf v5.2.2.2.2.1) == (strOf (dropTake (Int.toNat (0 : Int)) (Int.toNat v5.2.1) v5.2.2.1)))) = true then
            some ((), (false, ()))
           else
            if (laws_at.pre v5.1 (2 : Int)) = true then
             if (!(decide ((256 : Int) = (0 : Int)))) = true then
              if (decide ((0 : Int) ≤ (0 : Int))) = true then
               letB (laws_at v5.1 (2 : Int)) fun v6 =>
               if (decide ((0 : Int) ≤ (IntKind.wrap .i64 (Int.tdiv (IntKind.wrap .i64 (v6 * (IntKind.wrap .i64 (v5.2.1 + (1 : Int))))) (256 : Int))))) = true then
                if (decide ((IntKind.wrap .i64 (Int.tdiv (IntKind.wrap .i64 (v6 * (IntKind.wrap .i64 (v5.2.1 + (1 : Int))))) (256 : Int))) ≤ ((List.length v5.2.2.1 : Nat) : Int))) = true then
                 if (impl_Notes.pre (dropTake (Int.toNat (0 : Int)) (Int.toNat (IntKind.wrap .i64 (Int.tdiv (IntKind.wrap .i64 (v6 * (IntKind.wrap .i64 (v5.2.1 + (1 : Int))))) (256 : Int)))) v5.2.2.1)) = true then
                  letB (Notes (dropTake (Int.toNat (0 : Int)) (Int.toNat (IntKind.wrap .i64 (Int.tdiv (IntKind.wrap .i64 (v6 * (IntKind.wrap .i64 (v5.2.1 + (1 : Int))))) (256 : Int)))) v5.2.2.1)) fun v7 =>
                  if (decide ((IntKind.wrap .i64 (Int.tdiv (IntKind.wrap .i64 (v6 * (IntKind.wrap .i64 (v5.2.1 + (1 : Int))))) (256 : Int))) < v7.2)) = true then
                   some ((), (false, ()))
                  else
                   if (decide (((List.length v5.2.2.2.1 : Nat) : Int) < ((List.length v7.1 : Nat) : Int))) = true then
                    some ((), (false, ()))
                   else
                    if (laws_FnTorn.pre20 (v5.2.1, ((IntKind.wrap .i64 (Int.tdiv (IntKind.wrap .i64 (v6 * (IntKind.wrap .i64 (v5.2.1 + (1 : Int))))) (256 : Int))), ((0 : Int), (v5.2.2.2.1, (v7.1, ())))))) = true then
                     letB (laws_FnTorn.fn20 (v5.2.1, ((IntKind.wrap .i64 (Int.tdiv (IntKind.wrap .i64 (v6 * (IntKind.wrap .i64 (v5.2.1 + (1 : Int))))) (256 : Int))), ((0 : Int), (v5.2.2.2.1, (v7.1, ())))))) fun v8 =>
                     match v8 with
                     | .inl y =>
                      some ((), y)
                     | .inr y =>
                      if (decide (y.2.1 < y.1)) = true then
                       some ((), (true, ()))
                      else
                       some ((), ((decide (((List.length y.2.2.2.1 : Nat) : Int) = ((List.length y.2.2.1 : Nat) : Int))), ()))
                    else
                     none
                 else
                  none
                else
                 none
               else
                none
              else
               none
             else
              none
            else
             none
          else
           none
         else
          none
        else
         none
       else
        none
    else
     none
   else
    none
  else
   none
theorem ok10 (x1 : List Int) (x2 x3 : Int) (x4 : List Int) (x5 : List Note) (x6 : List Int) (hp : pre10 (x1, (x2, (x3, (x4, (x5, (x6, ())))))) = true) : Rounds pre10 mu10 fn10 (x1, (x2, (x3, (x4, (x5, (x6, ())))))) (raw10 x1 x2 x3 x4 x5 x6) := by
 simp only [pre10, Bool.and_eq_true, decide_eq_true_eq] at hp
 obtain ⟨h1, h2, h3, h4⟩ := hp
 unfold raw10
 by_cases hlt : x3 < (x5.length : Int)
 · have hf := fl_step (f := NoteBytes) x6 h1 hlt zNote
   have hl := NoteBytes_len (x5.getD x3.toNat zNote)
   rw [w64 (n := x3 + 1) (by omega) (by omega)]
   refine R_if (decide_eq_true hlt) (R_if (decide_eq_true h1) (R_if (decide_eq_true hlt) (R_let (R_if ?_ ⟨?_, by simp only [mu10]; omega, ?_⟩))))
   · show decide (x6.length + (NoteBytes (x5.getD x3.toNat zNote)).length ≤ lim) = true
     simp only [decide_eq_true_eq, lim]; omega
   · show pre10 (x1, (x2, (x3 + 1, (x4, (x5, (x6 ++ NoteBytes (x5.getD x3.toNat zNote), ())))))) = true
     simp only [pre10, Bool.and_eq_true, decide_eq_true_eq, List.length_append]
     exact ⟨by omega, by omega, h3, by omega⟩
   · show fn10 (x1, (x2, (x3 + 1, (x4, (x5, (x6 ++ NoteBytes (x5.getD x3.toNat zNote), ())))))) = _
     simp only [fn10]
     rw [hf]
 · exact R_else (by rw [decide_eq_true_eq]; exact hlt) (congrArg (fun z => ((x1, (x2, (x4, (x5, (z, ()))))) : O10)) (fl_end x6 hlt))
theorem ok20 (x1 x2 x3 : Int) (x4 x5 : List Note) (hp : pre20 (x1, (x2, (x3, (x4, (x5, ()))))) = true) : Rounds pre20 mu20 fn20 (x1, (x2, (x3, (x4, (x5, ()))))) (raw20 x1 x2 x3 x4 x5) := by
 simp only [pre20, Bool.and_eq_true, decide_eq_true_eq, B_iff] at hp
 obtain ⟨h1, h2, h3, more, h4⟩ := hp
 unfold raw20
 by_cases hlt : x3 < (x5.length : Int)
 · have e : x4.getD x3.toNat zNote = x5.getD x3.toNat zNote := by rw [h4]; exact getD_append_lt (by omega)
   have hl4 : x3 < (x4.length : Int) := by rw [h4, List.length_append]; omega
   rw [w64 (n := x3 + 1) (by omega) (by omega)]
   refine R_if (decide_eq_true hlt) (R_if (decide_eq_true h1) (R_if (decide_eq_true hlt) (R_if (decide_eq_true h1) (R_if (decide_eq_true hl4) (R_let (R_let ?_))))))
   show Rounds pre20 mu20 fn20 _ (if (!(strOf (NoteBytes (x5.getD x3.toNat zNote)) == strOf (NoteBytes (x4.getD x3.toNat zNote)))) = true then _ else _)
   rw [e]
   refine R_else (neq_self _) ⟨?_, by simp only [mu20]; omega, rfl⟩
   simp only [pre20, Bool.and_eq_true, decide_eq_true_eq, B_iff]
   exact ⟨by omega, by omega, h3, more, h4⟩
 · exact R_else (by rw [decide_eq_true_eq]; exact hlt) rfl
theorem eq (x0 : List Int) (hw : wf x0) : raw x0 = some ((), (laws_FnTorn x0, ())) := by
 have hb0 : isBytes x0 = true := isBytes_of hw.1.2
 refine W_eq ?_
 unfold raw
 refine W_let (W_ite (fun _ => W_some rfl) fun hb => ?_)
 have hs := not_big hb
 refine W_if (show spec_DrawNotes.pre x0 = true from hs) (W_fact (spec_DrawNotes_sp hs) fun b hbp => ?_)
 have hbl : b.length ≤ 200000 := hbp.1
 have hsb : small b = true := by rw [small_iff]; omega
 obtain ⟨l, e1, e2, e3, e4⟩ := notesW_pre hbp.2 (by omega) b.length 0 [] (by omega) (Int.le_refl _) (by omega)
 have hinv := notesW_inv hbp.2 b.length 0 [] (by omega) (Int.le_refl _) (by omega) (by simp) (fun r hr => absurd hr List.not_mem_nil)
 rw [List.nil_append] at e1
 refine W_if (show impl_Notes.pre b = true from hsb) (W_if (show spec_Notes.pre b = true from hsb) (W_let (W_let (W_else (nde_self _) (W_else (nde_self _) ?_)))))
 have hN : Notes b = (l, (notesW (spec_NoteOf b) b.length 0 []).1) := by rw [← e1]; rfl
 rw [hN]
 generalize hu : (notesW (spec_NoteOf b) b.length 0 []).1 = used at *
 have hll : l.length ≤ 40000 := by rw [e1] at hinv; omega
 refine W_if (show pre10 _ = true by simp only [pre10, Bool.and_eq_true, decide_eq_true_eq, List.length_nil]; exact ⟨by omega, by omega, by omega, by omega⟩) (W_if (by decide) (W_let ?_))
 simp only [fn10, Int.toNat_zero, List.drop_zero, List.nil_append]
 refine W_if (decide_eq_true e2) (W_if (decide_eq_true e3) (W_else ?_ ?_))
 · rw [e4]; exact neq_self _
 have ha := at_range (i := 2) hb0 (small_iff.1 hs) (by omega) (by omega)
 refine W_if (show laws_at.pre x0 2 = true from decide_eq_true (by omega)) (W_if (by decide) (W_if (by decide) (W_let ?_)))
 rw [w64 (n := used + 1) (by omega) (by omega)]
 have m1 : 0 ≤ laws_at x0 2 * (used + 1) := Int.mul_nonneg ha.1 (by omega)
 have m2 : laws_at x0 2 * (used + 1) ≤ 255 * (used + 1) := Int.mul_le_mul_of_nonneg_right ha.2 (by omega)
 rw [w64 (n := laws_at x0 2 * (used + 1)) (by omega) (by omega), Int.tdiv_eq_ediv_of_nonneg m1, w64 (n := laws_at x0 2 * (used + 1) / 256) (by omega) (by omega)]
 generalize hcut : laws_at x0 2 * (used + 1) / 256 = cut at *
 have c0 : 0 ≤ cut := by omega
 have c1 : cut ≤ used := by omega
 have ht : dropTake 0 cut.toNat b = b.take cut.toNat := rfl
 rw [ht]
 obtain ⟨more, t1, t2, t3⟩ := torn (c := cut.toNat) hbp.2 (by omega) (by omega) cut.toNat 0 [] (by omega) (Int.le_refl _) (by omega)
 have hlt : (b.take cut.toNat).length ≤ 200000 := by rw [List.length_take]; omega
 rw [e1, hu] at *
 refine W_if (decide_eq_true c0) (W_if (decide_eq_true (by omega)) (W_if (show impl_Notes.pre _ = true from by show small _ = true; rw [small_iff]; omega) (W_let ?_)))
 have hN2 : Notes (b.take cut.toNat) = ((notesW (spec_NoteOf (b.take cut.toNat)) (b.take cut.toNat).length 0 []).2, (notesW (spec_NoteOf (b.take cut.toNat)) (b.take cut.toNat).length 0 []).1) := rfl
 rw [hN2]
 generalize notesW (spec_NoteOf (b.take cut.toNat)) (b.take cut.toNat).length 0 [] = w at *
 have hlen : w.2.length ≤ l.length := by rw [t1, List.length_append]; omega
 refine W_else (by rw [decide_eq_true_eq]; simp only; omega) (W_else (by rw [decide_eq_true_eq]; simp only; omega) (W_if (show pre20 _ = true by simp only [pre20, Bool.and_eq_true, decide_eq_true_eq, B_iff]; exact ⟨by omega, by omega, by omega, more, t1⟩) (W_let ?_)))
 simp only [fn20]
 refine W_ite (fun _ => W_some rfl) fun h => W_some ?_
 rw [decide_eq_true_eq] at h
 have := t3 (by omega)
 rw [this, List.append_nil] at t1
 show decide ((w.2.length : Int) = (l.length : Int)) = true
 rw [t1, decide_eq_true rfl]
end laws_FnTorn
end Go.Aw.Pl

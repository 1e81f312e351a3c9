import Derived.Test.YtpcdhadfpeojkaaPsb
namespace Go.Aw.Pl
open Go Go.Aw
set_option linter.unusedVariables false
set_option linter.unusedSimpArgs false
set_option maxHeartbeats 1000000
theorem ents_wr : (l : List Entry) → (s : R) → (rest : List Int) → (xs : List Entry) → (∀ e ∈ l, CmdOk e.2.1 = true ∧ 0 ≤ e.1 ∧ e.1 ≤ 100000) → Sees s (ents l ++ rest) → ∃ u, rEnts spec_l7Num spec_l7Cmd true l.length s xs = (u, xs ++ l) ∧ Sees u rest ∧ u.1 = s.1
 | [], s, rest, xs, _, h => ⟨s, by simp [rEnts], h, rfl⟩
 | e :: l, s, rest, xs, hl, h => by
  have he := hl e List.mem_cons_self
  simp only [ents, List.flatMap_cons, entB, List.append_assoc] at h
  obtain ⟨s1, e1, h1, b1⟩ := num_wr (by omega) h
  obtain ⟨s2, e2, h2, b2⟩ := cmd_wr he.1 h1
  obtain ⟨u, e3, h3, b3⟩ := ents_wr l s2 rest (xs ++ [e]) (fun x hx => hl x (List.mem_cons_of_mem _ hx)) h2
  refine ⟨u, ?_, h3, by rw [b3, b2, b1]⟩
  simp only [List.length_cons, rEnts, e1, e2]
  rw [if_pos h.1]
  have ee : (e.1, (e.2.1, ())) = e := rfl
  rw [ee, e3, List.append_assoc]; rfl
theorem kind_facts {r : Note} (h : kindOk r = true) : (1 ≤ r.1 ∧ r.1 ≤ 3) ∧ (-1 ≤ r.2.2.1 ∧ r.2.2.1 ≤ 4) := by
 unfold kindOk at h
 by_cases k1 : r.1 = 1
 · rw [if_pos k1] at h
   simp only [Bool.and_eq_true] at h
   have := within_hi h.1
   omega
 · rw [if_neg k1] at h
   by_cases k2 : r.1 = 2
   · rw [if_pos k2] at h
     simp only [Bool.and_eq_true, decide_eq_true_eq] at h
     omega
   · rw [if_neg k2] at h
     by_cases k3 : r.1 = 3
     · rw [if_pos k3] at h
       simp only [Bool.and_eq_true, decide_eq_true_eq] at h
       omega
     · rw [if_neg k3] at h; cases h
theorem note_facts {r : Note} (h : NoteOk r = true) : (1 ≤ r.1 ∧ r.1 ≤ 3) ∧ (0 ≤ r.2.1 ∧ r.2.1 ≤ 300) ∧ (-1 ≤ r.2.2.1 ∧ r.2.2.1 ≤ 4) ∧ (0 ≤ r.2.2.2.1 ∧ r.2.2.2.1 ≤ 300) ∧ (∀ e ∈ r.2.2.2.2.1, CmdOk e.2.1 = true ∧ 0 ≤ e.1 ∧ e.1 ≤ 100000) ∧ r.2.2.2.2.1.length ≤ 40 ∧ r.2.2.2.2.2.1.length ≤ 30000 := by
 have hl := NoteOk_len h
 have hc := NoteOk_cmds h
 unfold NoteOk at h
 simp only [Bool.and_eq_true, decide_eq_true_eq] at h
 obtain ⟨a1, a2, a3, a4, a5⟩ := h
 have a1 := within_hi a1
 have a2 := within_hi a2
 have hk := kind_facts a5
 refine ⟨hk.1, a1, hk.2, a2, fun e he => ⟨hc e he, ?_⟩, hl⟩
 simp only [spec_l9List, Bool.and_eq_true, List.all_eq_true] at a3
 have := a3.1 e he
 simp only [eOk, Bool.and_eq_true] at this
 have := within_hi this.1
 omega
theorem note_wr {s : R} {rest : List Int} {r : Note} (hr : NoteOk r = true) (h : Sees s (spec_l9Body r ++ rest)) : ∃ u, spec_l9Read s = (u, r) ∧ Sees u rest ∧ u.1 = s.1 := by
 obtain ⟨f1, f2, f3, f4, f5, f6, f7⟩ := note_facts hr
 unfold spec_l9Body headB at h
 rw [w64 (n := r.2.2.1 + 1) (by omega) (by omega)] at h
 simp only [List.append_assoc] at h
 obtain ⟨s1, e1, h1, b1⟩ := num_wr (by omega) h
 obtain ⟨s2, e2, h2, b2⟩ := num_wr (by omega) h1
 obtain ⟨s3, e3, h3, b3⟩ := num_wr (by omega) h2
 obtain ⟨s4, e4, h4, b4⟩ := num_wr (by omega) h3
 obtain ⟨s5, e5, h5, b5⟩ := num_wr (by omega) h4
 obtain ⟨s6, e6, h6, b6⟩ := ents_wr r.2.2.2.2.1 s5 _ [] f5 h5
 obtain ⟨s7, e7, h7, b7⟩ := txt_wr (by omega) h6
 refine ⟨s7, ?_, h7, by rw [b7, b6, b5, b4, b3, b2, b1]⟩
 unfold spec_l9Read rNote
 simp only [letB, e1, e2, e3, e4, e5, Int.toNat_natCast, e6, e7, List.nil_append]
 rw [show r.2.2.1 + 1 - 1 = r.2.2.1 by omega, w64 (n := r.2.2.1) (by omega) (by omega)]
theorem noteOf_of {b rest : List Int} {i : Int} {r : Note} (h0 : 0 ≤ i) (hr : NoteOk r = true) (h : b.drop i.toNat = NoteBytes r ++ rest) : spec_NoteOf b i = (r, (i + ((NoteBytes r).length : Int), true)) := by
 have hbl := body_len (NoteOk_len hr)
 unfold NoteBytes at h
 rw [if_pos hr] at h
 have hs : Sees (b, (i, (true, ()))) (PutNum ((spec_l9Body r).length : Int) ++ (spec_l9Body r ++ (sum4 (SumOf (spec_l9Body r)) ++ rest))) := by
  refine ⟨rfl, h0, ?_, by simpa only [List.append_assoc] using h⟩
  show i ≤ (b.length : Int)
  have := congrArg List.length h
  rw [List.length_drop] at this
  simp only [List.length_append, sum4, List.length_cons] at this
  omega
 have hg := GetNum_of h0 (n := ((spec_l9Body r).length : Int)) ⟨by omega, by omega⟩ hs.2.2.2
 have g1 := sees_go hs
 have g2 := sees_go g1.1
 simp only at g1 g2
 have hl4 : (sum4 (SumOf (spec_l9Body r))).length = 4 := rfl
 have hlen := g2.2
 rw [List.length_append, hl4] at hlen
 have hn : (NoteBytes r).length = (PutNum ((spec_l9Body r).length : Int)).length + (spec_l9Body r).length + 4 := by
  unfold NoteBytes; rw [if_pos hr, List.length_append, List.length_append, hl4]
 have d1 := g1.1.2.2.2
 have d2 := g2.1.2.2.2
 simp only at d1 d2
 unfold spec_NoteOf ofV
 rw [hg]
 simp only [if_true]
 rw [if_neg (by omega)]
 have hbody : dropTake (i + ((PutNum ((spec_l9Body r).length : Int)).length : Int)).toNat (i + ((PutNum ((spec_l9Body r).length : Int)).length : Int) + ((spec_l9Body r).length : Int)).toNat b = spec_l9Body r := by
  unfold dropTake
  rw [d1, show (i + ((PutNum ((spec_l9Body r).length : Int)).length : Int) + ((spec_l9Body r).length : Int)).toNat - (i + ((PutNum ((spec_l9Body r).length : Int)).length : Int)).toNat = (spec_l9Body r).length by omega, List.take_left]
 have hsum : dropTake (i + ((PutNum ((spec_l9Body r).length : Int)).length : Int) + ((spec_l9Body r).length : Int) + 4 - 4).toNat (i + ((PutNum ((spec_l9Body r).length : Int)).length : Int) + ((spec_l9Body r).length : Int) + 4).toNat b = sum4 (SumOf (spec_l9Body r)) := by
  unfold dropTake
  rw [show i + ((PutNum ((spec_l9Body r).length : Int)).length : Int) + ((spec_l9Body r).length : Int) + 4 - 4 = i + ((PutNum ((spec_l9Body r).length : Int)).length : Int) + ((spec_l9Body r).length : Int) by omega, d2,
   show (i + ((PutNum ((spec_l9Body r).length : Int)).length : Int) + ((spec_l9Body r).length : Int) + 4).toNat - (i + ((PutNum ((spec_l9Body r).length : Int)).length : Int) + ((spec_l9Body r).length : Int)).toNat = (sum4 (SumOf (spec_l9Body r))).length by rw [hl4]; omega, List.take_left]
 rw [hbody, hsum, if_pos rfl]
 have hin : Sees (spec_l9Body r, ((0 : Int), (true, ()))) (spec_l9Body r ++ []) := ⟨rfl, Int.le_refl _, by show (0 : Int) ≤ _; omega, by simp⟩
 obtain ⟨u, e1, e2, e3⟩ := note_wr hr hin
 have hu : u.2.1 = ((spec_l9Body r).length : Int) := by
  have h4 := e2.2.2.2
  have := congrArg List.length h4
  rw [List.length_drop, e3] at this
  have h3 := e2.2.2.1
  rw [e3] at h3
  simp only [List.length_nil] at this h3
  have := e2.2.1
  omega
 have hok : inOk (spec_l9Body r) = true := by
  unfold inOk eqI
  rw [e1, e2.1, hu, hr]; simp
 rw [if_pos hok, e1, hn]
 simp only [Prod.mk.injEq, and_true, true_and]
 omega
def noteBody (b : List Int) (v : Int × (Int × Bool)) : List Int := dropTake v.2.1.toNat (v.2.1 + v.1).toNat b
theorem noteOf_cases (b : List Int) (i : Int) : spec_NoteOf b i = (zNote, (0, false)) ∨ ((GetNum b i).2.2 = true ∧ (GetNum b i).1 ≤ (b.length : Int) - (GetNum b i).2.1 - 4 ∧ inOk (noteBody b (GetNum b i)) = true ∧
 spec_NoteOf b i = ((spec_l9Read (noteBody b (GetNum b i), (0, (true, ())))).2, ((GetNum b i).2.1 + (GetNum b i).1 + 4, true))) := by
 by_cases c1 : (GetNum b i).2.2 = true
 case neg => exact .inl (if_neg c1)
 by_cases c2 : (b.length : Int) - (GetNum b i).2.1 - 4 < (GetNum b i).1
 case pos => exact .inl ((if_pos c1).trans (if_pos c2))
 by_cases c3 : strOf (sum4 (SumOf (noteBody b (GetNum b i)))) = strOf (dropTake ((GetNum b i).2.1 + (GetNum b i).1 + 4 - 4).toNat ((GetNum b i).2.1 + (GetNum b i).1 + 4).toNat b)
 case neg => exact .inl ((if_pos c1).trans ((if_neg c2).trans (if_neg c3)))
 by_cases c4 : inOk (noteBody b (GetNum b i)) = true
 case neg => exact .inl ((if_pos c1).trans ((if_neg c2).trans ((if_pos c3).trans (if_neg c4))))
 exact .inr ⟨c1, by omega, c4, (if_pos c1).trans ((if_neg c2).trans ((if_pos c3).trans (if_pos c4)))⟩
theorem implOf_cases (b : List Int) (i : Int) : impl_NoteOf b i = (zNote, (0, false)) ∨ (strOf (NoteBytes (impl_NoteOf b i).1) = strOf (dropTake i.toNat (impl_NoteOf b i).2.1.toNat b)) := by
 by_cases c1 : (impl_GetNum b i).2.2 = true
 case neg => exact .inl (if_neg c1)
 by_cases c2 : (b.length : Int) - (impl_GetNum b i).2.1 - 4 < (impl_GetNum b i).1
 case pos => exact .inl ((if_pos c1).trans (if_pos c2))
 by_cases c3 : (impl_noteIn (noteBody b (impl_GetNum b i))).2 = true
 case neg => exact .inl ((if_pos c1).trans ((if_neg c2).trans (if_neg c3)))
 by_cases c4 : strOf (NoteBytes (impl_noteIn (noteBody b (impl_GetNum b i))).1) = strOf (dropTake i.toNat ((impl_GetNum b i).2.1 + (impl_GetNum b i).1 + 4).toNat b)
 case neg => exact .inl ((if_pos c1).trans ((if_neg c2).trans ((if_pos c3).trans (if_neg c4))))
 have e : impl_NoteOf b i = ((impl_noteIn (noteBody b (impl_GetNum b i))).1, ((impl_GetNum b i).2.1 + (impl_GetNum b i).1 + 4, true)) := (if_pos c1).trans ((if_neg c2).trans ((if_pos c3).trans (if_pos c4)))
 right
 rw [e]
 exact c4
theorem noteOf_none {b : List Int} {i : Int} (h : ¬ (spec_NoteOf b i).2.2 = true) : spec_NoteOf b i = (zNote, (0, false)) := by
 rcases noteOf_cases b i with h1 | h1
 · exact h1
 · rw [h1.2.2.2] at h; exact absurd rfl h
theorem strOf_inj {a b : List Int} (ha : isBytes a = true) (hb : isBytes b = true) (h : strOf a = strOf b) : a = b := by
 rw [← bytesOf_strOf ha, ← bytesOf_strOf hb, h]
theorem noteOf_is {b : List Int} {i : Int} (hb : isBytes b = true) (hl : b.length ≤ 9223372036854775802) (h : (spec_NoteOf b i).2.2 = true) :
 0 ≤ i ∧ NoteOk (spec_NoteOf b i).1 = true ∧ i ≤ (spec_NoteOf b i).2.1 ∧ (spec_NoteOf b i).2.1 ≤ (b.length : Int) ∧ dropTake i.toNat (spec_NoteOf b i).2.1.toNat b = NoteBytes (spec_NoteOf b i).1 ∧ (spec_NoteOf b i).2.1 = i + ((NoteBytes (spec_NoteOf b i).1).length : Int) := by
 have hs := NoteOf_same i hb hl
 rcases noteOf_cases b i with h1 | ⟨c1, c2, c3, c4⟩
 · rw [h1] at h; cases h
 have g := GetNum_put hb c1
 have hok : NoteOk (spec_NoteOf b i).1 = true := by
  rw [c4]
  unfold inOk at c3
  simp only [Bool.and_eq_true] at c3
  exact c3.2.2
 have hpos : i ≤ (spec_NoteOf b i).2.1 ∧ (spec_NoteOf b i).2.1 ≤ (b.length : Int) := by
  rw [c4]
  simp only
  omega
 have hdt : dropTake i.toNat (spec_NoteOf b i).2.1.toNat b = NoteBytes (spec_NoteOf b i).1 := by
  rcases implOf_cases b i with h2 | h2
  · rw [← hs, h2] at h; cases h
  · rw [hs] at h2
    exact (strOf_inj (NoteBytes_bytes _) (isBytes_dropTake hb _ _) h2).symm
 refine ⟨g.1, hok, hpos.1, hpos.2, hdt, ?_⟩
 rw [← hdt, Go.Aw.dropTake_len (by omega) (by omega)]
 omega
namespace spec_l7Dent
def pre (c : Cur) (b : List Int) : Bool := curB c && (decide (b.length ≤ 1000000) && isBytes b)
abbrev wf (x0 : zt14) (x1 : (List Int)) : Prop := wfA [(.ref zk36 .f), (.val zk24 .o)] (x0, (x1, ()))
noncomputable def raw (x0 : zt14) (x1 : (List Int)) : Option ((zt14 × Unit) × zt15) :=
 if (spec_l1Below.pre x0 (IntKind.wrap .i64 (((List.length x1 : Nat) : Int) + (1 : Int)))) = true then
 letB (spec_l1Below x0 (IntKind.wrap .i64 (((List.length x1 : Nat) : Int) + (1 : Int)))) fun v1 =>
 if (spec_l1Below.pre v1.1 (5 : Int)) = true then
 letB (spec_l1Below v1.1 (5 : Int)) fun v2 =>
 if (decide (v2.2 = (0 : Int))) = true then
 if (decide ((0 : Int) ≤ (0 : Int))) = true then
 if (decide ((0 : Int) ≤ v1.2)) = true then
 if (decide (v1.2 ≤ ((List.length x1 : Nat) : Int))) = true then
 some ((v2.1, ()), ((dropTake (Int.toNat (0 : Int)) (Int.toNat v1.2) x1), ()))
 else
 none
 else
 none
 else
 none
 else
 if (decide (v2.2 = (1 : Int))) = true then
 if (decide ((0 : Int) ≤ (0 : Int))) = true then
 if (decide ((0 : Int) ≤ v1.2)) = true then
 if (decide (v1.2 ≤ ((List.length x1 : Nat) : Int))) = true then
 if (decide (List.length ([] : List Int) + List.length (dropTake (Int.toNat (0 : Int)) (Int.toNat v1.2) x1) ≤ lim)) = true then
 if (spec_l1PickInt.pre v2.1 ((0 : Int) :: ((1 : Int) :: ((128 : Int) :: ((3 : Int) :: ([] : List Int)))))) = true then
 if (decide ((0 : Int) ≤ v1.2)) = true then
 if (decide (v1.2 ≤ ((List.length x1 : Nat) : Int))) = true then
 if (decide (((List.length x1 : Nat) : Int) ≤ ((List.length x1 : Nat) : Int))) = true then
 letB (spec_l1PickInt v2.1 ((0 : Int) :: ((1 : Int) :: ((128 : Int) :: ((3 : Int) :: ([] : List Int)))))) fun v3 =>
 if (decide (List.length ((IntKind.wrap .u8 v3.2) :: ([] : List Int)) + List.length (dropTake (Int.toNat v1.2) (Int.toNat ((List.length x1 : Nat) : Int)) x1) ≤ lim)) = true then
 if (decide (List.length (List.append ([] : List Int) (dropTake (Int.toNat (0 : Int)) (Int.toNat v1.2) x1)) + List.length (List.append ((IntKind.wrap .u8 v3.2) :: ([] : List Int)) (dropTake (Int.toNat v1.2) (Int.toNat ((List.length x1 : Nat) : Int)) x1)) ≤ lim)) = true then
 some ((v3.1, ()), ((List.append (List.append ([] : List Int) (dropTake (Int.toNat (0 : Int)) (Int.toNat v1.2) x1)) (List.append ((IntKind.wrap .u8 v3.2) :: ([] : List Int)) (dropTake (Int.toNat v1.2) (Int.toNat ((List.length x1 : Nat) : Int)) x1))), ()))
 else
 none
 else
 none
 else
 none
 else
 none
 else
 none
 else
 none
 else
 none
 else
 none
 else
 none
 else
 none
 else
 some ((v2.1, ()), (x1, ()))
 else
 none
 else
 none
theorem wp (x0 : Cur) (x1 : List Int) (hp : pre x0 x1 = true) : Wp (raw x0 x1) (fun r => dP (bytesP (x1.length + 1)) (r.1.1, r.2.1)) := by
 unfold raw
 simp only [pre, Bool.and_eq_true, decide_eq_true_eq] at hp
 obtain ⟨hc, hl, hb⟩ := hp
 rw [w64 (n := (x1.length : Int) + 1) (by omega) (by omega)]
 refine W_if (show spec_l1Below.pre x0 _ = true from hc) (W_fact (spec_l1Below_sp hc) fun a ha => ?_)
 have a1 := ha.2.1; have a2 := ha.2.2 (by omega)
 refine W_if (show spec_l1Below.pre a.1 _ = true from ha.1) (W_fact (spec_l1Below_sp ha.1) fun k hk => W_ite (fun _ => ?_) fun _ => W_ite (fun _ => ?_) fun _ => W_some ⟨hk.1, by show x1.length ≤ x1.length + 1; omega, hb⟩)
 · refine W_if (by decide) (W_if (decide_eq_true a1) (W_if (decide_eq_true (by omega)) (W_some ⟨hk.1, ?_, isBytes_dropTake hb _ _⟩)))
   show (dropTake _ _ x1).length ≤ _
   simp only [dropTake, List.length_take, List.length_drop]; omega
 · have hpk : spec_l1PickInt.pre k.1 ((0 : Int) :: ((1 : Int) :: ((128 : Int) :: ((3 : Int) :: ([] : List Int))))) = true := pick_pre hk.1 (by decide)
   refine W_if (by decide) (W_if (decide_eq_true a1) (W_if (decide_eq_true (by omega)) (W_if (by simp only [decide_eq_true_eq, List.length_nil, dropTake, List.length_take, List.length_drop, lim]; omega) (W_if hpk (W_if (decide_eq_true a1) (W_if (decide_eq_true (by omega)) (W_if (decide_eq_true (Int.le_refl _)) (W_fact (spec_l1PickInt_sp hpk) fun d hd => W_if (by simp only [decide_eq_true_eq, List.length_cons, List.length_nil, dropTake, List.length_take, List.length_drop, lim]; omega) (W_if (by simp only [decide_eq_true_eq, List.append_eq, List.length_append, List.length_cons, List.length_nil, dropTake, List.length_take, List.length_drop, lim]; omega) (W_some ⟨hd.1, ?_, ?_⟩))))))))))
   · show (List.append (List.append ([] : List Int) (dropTake _ _ x1)) (List.append (_ :: ([] : List Int)) (dropTake _ _ x1))).length ≤ _
     simp only [List.append_eq, List.length_append, List.length_cons, List.length_nil, dropTake, List.length_take, List.length_drop]; omega
   · show isBytes (List.append (List.append ([] : List Int) (dropTake _ _ x1)) (List.append (_ :: ([] : List Int)) (dropTake _ _ x1))) = true
     simp only [List.append_eq, isBytes_app, isBytes_cons, isBytes_dropTake hb]
     rw [decide_eq_true (wrap8_byte _).1, decide_eq_true (wrap8_byte _).2]; rfl
noncomputable def val (x0 : Cur) (x1 : List Int) : Cur × List Int := ((got (raw x0 x1)).1.1, (got (raw x0 x1)).2.1)
theorem eq (x0 : Cur) (x1 : List Int) (_ : wf x0 x1) (hp : pre x0 x1 = true) : raw x0 x1 = some (((val x0 x1).1, ()), ((val x0 x1).2, ())) := (got_eq (wp x0 x1 hp)).1
end spec_l7Dent
noncomputable def spec_l7Dent (x0 : Cur) (x1 : List Int) : Cur × List Int := spec_l7Dent.val x0 x1
theorem spec_l7Dent_sp {x0 : Cur} {x1 : List Int} (hp : spec_l7Dent.pre x0 x1 = true) : dP (bytesP (x1.length + 1)) (spec_l7Dent x0 x1) := (got_eq (spec_l7Dent.wp x0 x1 hp)).2
theorem dent_pre {c : Cur} {b : List Int} (h : curB c = true) (hb : bytesP 1000000 b) : spec_l7Dent.pre c b = true := by
 simp only [spec_l7Dent.pre, Bool.and_eq_true, decide_eq_true_eq]; exact ⟨h, hb.1, hb.2⟩
namespace spec_DrawNoteOf
def pre (x : List Int) : Bool := small x
abbrev wf (x0 : (List Int)) : Prop := wfA [(.val zk24 .f)] (x0, ())
noncomputable def raw (x0 : (List Int)) : Option (Unit × Disk) :=
 if (spec_l1New.pre x0) = true then
 letB (spec_l1New x0) fun v1 =>
 if (spec_l9DrawRight.pre v1) = true then
 letB (spec_l9DrawRight v1) fun v2 =>
 if (spec_l9DrawBytes.pre v2.1) = true then
 letB (NoteBytes v2.2) fun v3 =>
 letB (spec_l9DrawBytes v2.1) fun v4 =>
 if (decide (List.length v3 + List.length v4.2 ≤ lim)) = true then
 if (spec_l7Dent.pre v4.1 (List.append v3 v4.2)) = true then
 letB (spec_l7Dent v4.1 (List.append v3 v4.2)) fun v5 =>
 if (spec_l1PickInt.pre v5.1 ((0 : Int) :: ((0 : Int) :: ((0 : Int) :: ((1 : Int) :: (((List.length v5.2 : Nat) : Int) :: ((-1 : Int) :: ([] : List Int)))))))) = true then
 letB (spec_l1PickInt v5.1 ((0 : Int) :: ((0 : Int) :: ((0 : Int) :: ((1 : Int) :: (((List.length v5.2 : Nat) : Int) :: ((-1 : Int) :: ([] : List Int)))))))) fun v6 =>
 some ((), (v5.2, (v6.2, ())))
 else
 none
 else
 none
 else
 none
 else
 none
 else
 none
 else
 none
theorem wp (x0 : List Int) (hp : pre x0 = true) : Wp (raw x0) (fun r => bytesP 200000 r.2.1) := by
 unfold raw
 refine W_if (show spec_l1New.pre x0 = true from hp) (W_fact (P := fun c : Cur => curB c = true) (spec_l1New_sp hp) fun a ha => W_if (show spec_l9DrawRight.pre a = true from ha) (W_fact (spec_l9DrawRight_sp ha) fun b hb => W_if (show spec_l9DrawBytes.pre b.1 = true from hb.1) (W_let (W_fact (spec_l9DrawBytes_sp hb.1) fun c hc => ?_))))
 have l1 := NoteBytes_len b.2
 have l2 : c.2.length ≤ 123000 := hc.2.1
 have hbp : bytesP 1000000 (List.append (NoteBytes b.2) c.2) := ⟨by rw [List.append_eq, List.length_append]; omega, by rw [List.append_eq, isBytes_app, NoteBytes_bytes, hc.2.2]; rfl⟩
 refine W_if (by simp only [decide_eq_true_eq, lim]; omega) (W_if (dent_pre hc.1 hbp) (W_fact (spec_l7Dent_sp (dent_pre hc.1 hbp)) fun d hd => ?_))
 have l3 := hd.2.1
 rw [List.append_eq, List.length_append] at l3
 refine W_if (pick_pre hd.1 (by show 0 < 6; omega)) (W_fact (spec_l1PickInt_sp (pick_pre hd.1 (by show 0 < 6; omega))) fun e he => W_some ⟨by show d.2.length ≤ 200000; omega, hd.2.2⟩)
noncomputable def val (x0 : List Int) : List Int × Int := ((got (raw x0)).2.1, (got (raw x0)).2.2.1)
theorem eq (x0 : List Int) (_ : wf x0) (hp : pre x0 = true) : raw x0 = some ((), ((val x0).1, ((val x0).2, ()))) := (got_eq (wp x0 hp)).1
end spec_DrawNoteOf
noncomputable def spec_DrawNoteOf (x0 : List Int) : List Int × Int := spec_DrawNoteOf.val x0
theorem spec_DrawNoteOf_sp {x0 : List Int} (hp : small x0 = true) : bytesP 200000 (spec_DrawNoteOf x0).1 := (got_eq (spec_DrawNoteOf.wp x0 hp)).2
noncomputable def laws_at (x : List Int) (i : Int) : Int := if i < (x.length : Int) then IntKind.wrap .i64 (x.getD i.toNat 0) else Int.tmod (IntKind.wrap .i64 (IntKind.wrap .i64 (i * 7) + (x.length : Int))) 256
namespace laws_at
def pre (_ : List Int) (i : Int) : Bool := decide (0 ≤ i)
abbrev wf (x0 : (List Int)) (x1 : Int) : Prop := wfA [(.val zk24 .f), (.val (.int .i64) .f)] (x0, (x1, ()))
noncomputable def raw (x0 : (List Int)) (x1 : Int) : Option (Unit × (Int × Unit)) :=
 if (decide (x1 < ((List.length x0 : Nat) : Int))) = true then
 if (decide ((0 : Int) ≤ x1)) = true then
 if (decide (x1 < ((List.length x0 : Nat) : Int))) = true then
 some ((), ((IntKind.wrap .i64 (List.getD x0 (Int.toNat x1) (0 : Int))), ()))
 else
 none
 else
 none
 else
 if (!(decide ((256 : Int) = (0 : Int)))) = true then
 some ((), ((Int.tmod (IntKind.wrap .i64 ((IntKind.wrap .i64 (x1 * (7 : Int))) + ((List.length x0 : Nat) : Int))) (256 : Int)), ()))
 else
 none
theorem eq (x0 : List Int) (x1 : Int) (_ : wf x0 x1) (hp : pre x0 x1 = true) : raw x0 x1 = some ((), (laws_at x0 x1, ())) := by
 simp only [pre, decide_eq_true_eq] at hp
 unfold raw laws_at
 by_cases h : x1 < (x0.length : Int)
 · rw [if_pos (decide_eq_true h), if_pos h]
   exact E_if (decide_eq_true hp) (E_if (decide_eq_true h) rfl)
 · rw [if_neg (by rw [decide_eq_true_eq]; exact h), if_neg h]
   exact E_if (by decide) rfl
end laws_at
theorem noteOf_more {b : List Int} {k : Int} {m : List Int} (hb : isBytes b = true) (hl : b.length ≤ 1000000) (h : (spec_NoteOf b k).2.2 = true) :
 spec_NoteOf (List.append (List.append ([] : List Int) (dropTake (Int.toNat 0) (spec_NoteOf b k).2.1.toNat b)) m) k = spec_NoteOf b k := by
 obtain ⟨h1, h2, h3, h4, h5, h6⟩ := noteOf_is hb (by omega) h
 have e : (List.append (List.append ([] : List Int) (dropTake (Int.toNat 0) (spec_NoteOf b k).2.1.toNat b)) m).drop k.toNat = NoteBytes (spec_NoteOf b k).1 ++ m := by
  show (List.take ((spec_NoteOf b k).2.1.toNat - 0) (List.drop 0 b) ++ m).drop k.toNat = _
  rw [List.drop_zero, Nat.sub_zero, List.drop_append_of_le_length (by rw [List.length_take]; omega), List.drop_take, ← h5]; rfl
 rw [noteOf_of h1 h2 e, ← h6]
 have : (spec_NoteOf b k) = ((spec_NoteOf b k).1, ((spec_NoteOf b k).2.1, (spec_NoteOf b k).2.2)) := rfl
 rw [this, h]
def laws_FnNoSpill (_ : List Int) : Bool := true
namespace laws_FnNoSpill
abbrev wf (x0 : (List Int)) : Prop := wfA [(.val zk24 .f)] (x0, ())
noncomputable def raw (x0 : (List Int)) : Option zt30 :=
 letB (laws_big x0) fun v1 =>
 if v1 = true then
 some ((), (true, ()))
 else
 if (spec_DrawNoteOf.pre x0) = true then
 letB (spec_DrawNoteOf x0) fun v2 =>
 if (impl_NoteOf.pre v2.1 v2.2) = true then
 if (spec_NoteOf.pre v2.1 v2.2) = true then
 letB (impl_NoteOf v2.1 v2.2) fun v3 =>
 letB (spec_NoteOf v2.1 v2.2) fun v4 =>
 if (!(v3.2.2 == v4.2.2)) = true then
 some ((), (false, ()))
 else
 if (!(decide (v3.2.1 = v4.2.1))) = true then
 some ((), (false, ()))
 else
 if (!v3.2.2) = true then
 some ((), ((decide (v3.1.1 = (0 : Int))), ()))
 else
 if (decide ((0 : Int) ≤ (0 : Int))) = true then
 if (decide ((0 : Int) ≤ v3.2.1)) = true then
 if (decide (v3.2.1 ≤ ((List.length v2.1 : Nat) : Int))) = true then
 if (decide (List.length ([] : List Int) + List.length (dropTake (Int.toNat (0 : Int)) (Int.toNat v3.2.1) v2.1) ≤ lim)) = true then
 if (laws_at.pre x0 (1 : Int)) = true then
 if (laws_at.pre x0 (2 : Int)) = true then
 letB (laws_at x0 (1 : Int)) fun v5 =>
 letB (laws_at x0 (2 : Int)) fun v6 =>
 if (decide (List.length (List.append ([] : List Int) (dropTake (Int.toNat (0 : Int)) (Int.toNat v3.2.1) v2.1)) + List.length ((IntKind.wrap .u8 v5) :: ((IntKind.wrap .u8 v6) :: ([] : List Int))) ≤ lim)) = true then
 if (impl_NoteOf.pre (List.append (List.append ([] : List Int) (dropTake (Int.toNat (0 : Int)) (Int.toNat v3.2.1) v2.1)) ((IntKind.wrap .u8 v5) :: ((IntKind.wrap .u8 v6) :: ([] : List Int)))) v2.2) = true then
 letB (impl_NoteOf (List.append (List.append ([] : List Int) (dropTake (Int.toNat (0 : Int)) (Int.toNat v3.2.1) v2.1)) ((IntKind.wrap .u8 v5) :: ((IntKind.wrap .u8 v6) :: ([] : List Int)))) v2.2) fun v7 =>
 if v7.2.2 = true then
 if (decide (v7.2.1 = v3.2.1)) = true then
 letB (NoteBytes v7.1) fun v8 =>
 letB (NoteBytes v3.1) fun v9 =>
 some ((), (((strOf v8) == (strOf v9)), ()))
 else
 some ((), (false, ()))
 else
 some ((), (false, ()))
 else
 none
 else
 none
 else
 none
 else
 none
 else
 none
 else
 none
 else
 none
 else
 none
 else
 none
 else
 none
 else
 none
theorem eq (x0 : List Int) (_ : wf x0) : raw x0 = some ((), (laws_FnNoSpill x0, ())) := by
 refine W_eq ?_
 unfold raw
 refine W_let (W_ite (fun _ => W_some rfl) fun hb => ?_)
 have hs := not_big hb
 refine W_if (show spec_DrawNoteOf.pre x0 = true from hs) (W_fact (P := fun v : List Int × Int => bytesP 200000 v.1) (spec_DrawNoteOf_sp hs) fun a ha => ?_)
 have hal : a.1.length ≤ 200000 := ha.1
 have hsame : impl_NoteOf a.1 a.2 = spec_NoteOf a.1 a.2 := NoteOf_same _ ha.2 (by omega)
 refine W_if (show impl_NoteOf.pre a.1 a.2 = true from decide_eq_true (Int.le_refl _)) (W_if (show spec_NoteOf.pre a.1 a.2 = true from rfl) (W_let (W_let ?_)))
 rw [hsame]
 refine W_else (neq_self _) (W_else (nde_self _) (W_ite (fun h => ?_) fun h => ?_))
 · have : ¬ (spec_NoteOf a.1 a.2).2.2 = true := by cases h2 : (spec_NoteOf a.1 a.2).2.2 <;> simp_all
   rw [noteOf_none this]
   exact W_some rfl
 · have hok : (spec_NoteOf a.1 a.2).2.2 = true := by cases h2 : (spec_NoteOf a.1 a.2).2.2 <;> simp_all
   obtain ⟨h1, h2, h3, h4, h5, h6⟩ := noteOf_is ha.2 (by omega) hok
   refine W_if (by decide) (W_if (decide_eq_true (by omega)) (W_if (decide_eq_true h4) (W_if (by simp only [decide_eq_true_eq, List.length_nil, dropTake, List.length_take, List.length_drop, lim]; omega) ?_)))
   refine W_if (show laws_at.pre x0 1 = true from decide_eq_true (by omega)) (W_if (show laws_at.pre x0 2 = true from decide_eq_true (by omega)) (W_let (W_let ?_)))
   refine W_if (by simp only [decide_eq_true_eq, List.append_eq, List.length_append, List.length_cons, List.length_nil, dropTake, List.length_take, List.length_drop, lim]; omega) ?_
   have hmb : isBytes (List.append (List.append ([] : List Int) (dropTake (Int.toNat 0) (spec_NoteOf a.1 a.2).2.1.toNat a.1)) ((IntKind.wrap .u8 (laws_at x0 1)) :: ((IntKind.wrap .u8 (laws_at x0 2)) :: ([] : List Int)))) = true := by
    simp only [List.append_eq, isBytes_app, isBytes_cons, isBytes_dropTake ha.2]
    rw [decide_eq_true (wrap8_byte (laws_at x0 1)).1, decide_eq_true (wrap8_byte (laws_at x0 1)).2, decide_eq_true (wrap8_byte (laws_at x0 2)).1, decide_eq_true (wrap8_byte (laws_at x0 2)).2]; rfl
   have hml : (List.append (List.append ([] : List Int) (dropTake (Int.toNat 0) (spec_NoteOf a.1 a.2).2.1.toNat a.1)) ((IntKind.wrap .u8 (laws_at x0 1)) :: ((IntKind.wrap .u8 (laws_at x0 2)) :: ([] : List Int)))).length ≤ 300000 := by
    simp only [List.append_eq, List.length_append, List.length_cons, List.length_nil, dropTake, List.length_take, List.length_drop]; omega
   have hmore := noteOf_more (m := (IntKind.wrap .u8 (laws_at x0 1)) :: ((IntKind.wrap .u8 (laws_at x0 2)) :: ([] : List Int))) ha.2 (by omega) hok
   rw [← NoteOf_same _ hmb (by omega)] at hmore
   refine W_if (show impl_NoteOf.pre _ a.2 = true from decide_eq_true (Int.le_refl _)) (W_let ?_)
   rw [hmore]
   refine W_if hok (W_if (decide_eq_true rfl) (W_let (W_let (W_some ?_))))
   exact beq_self_eq_true _
end laws_FnNoSpill
end Go.Aw.Pl

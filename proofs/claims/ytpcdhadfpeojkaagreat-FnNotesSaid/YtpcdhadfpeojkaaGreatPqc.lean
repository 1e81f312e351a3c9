import Derived.Test.YtpcdhadfpeojkaaGreatPqb
namespace Go.Aw.Pl
open Go.IntKind (wrap)
open List (length)
open Go Go.Aw
set_option linter.unusedVariables false
set_option linter.unusedSimpArgs false
set_option maxHeartbeats 1000000
theorem ents_wr : (l : List Entry) -> (s : R) -> (rest : List Int) -> (xs : List Entry) -> (∀ e ∈ l, CmdOk e.2.1 = true /\ 0 <= e.1 /\ e.1 <= 100000) -> Sees s (ents l ++ rest) -> ∃ u, rEnts spec_l7Num spec_l7Cmd true l.length s xs = (u, xs ++ l) /\ Sees u rest /\ u.1 = s.1
 | [], s, rest, xs, _, h => ⟨s, by simp [rEnts], h, rfl⟩
 | e :: l, s, rest, xs, hl, h => by
  have he := hl e List.mem_cons_self
  simp only [ents, List.flatMap_cons, entB, Zk] at h
  obtain ⟨s1, e1, h1, b1⟩ := num_wr (by omega) h
  obtain ⟨s2, e2, h2, b2⟩ := cmd_wr he.1 h1
  obtain ⟨u, e3, h3, b3⟩ := ents_wr l s2 rest (xs ++ [e]) (fun x hx => hl x (Zo _ hx)) h2
  refine ⟨u, ?_, h3, by rw [b3, b2, b1]⟩
  simp only [Zg, rEnts, e1, e2]
  rw [if_pos h.1]
  have ee : (e.1, (e.2.1, ())) = e := rfl
  rw [ee, e3, Zk]; rfl
theorem kind_facts {r : Note} (h : kindOk r = true) : (1 <= r.1 /\ r.1 <= 3) /\ (-1 <= r.2.2.1 /\ r.2.2.1 <= 4) := by
 unfold kindOk at h
 by_cases k1 : r.1 = 1
 . rw [if_pos k1] at h
   simp only [Zb] at h
   have := within_hi h.1
   omega
 . rw [if_neg k1] at h
   by_cases k2 : r.1 = 2
   . rw [if_pos k2] at h
     simp only [Zb, Za] at h
     omega
   . rw [if_neg k2] at h
     by_cases k3 : r.1 = 3
     . rw [if_pos k3] at h
       simp only [Zb, Za] at h
       omega
     . rw [if_neg k3] at h; cases h
theorem note_facts {r : Note} (h : NoteOk r = true) : (1 <= r.1 /\ r.1 <= 3) /\ (0 <= r.2.1 /\ r.2.1 <= 300) /\ (-1 <= r.2.2.1 /\ r.2.2.1 <= 4) /\ (0 <= r.2.2.2.1 /\ r.2.2.2.1 <= 300) /\ (∀ e ∈ r.2.2.2.2.1, CmdOk e.2.1 = true /\ 0 <= e.1 /\ e.1 <= 100000) /\ r.2.2.2.2.1.length <= 40 /\ r.2.2.2.2.2.1.length <= 30000 := by
 have hl := NoteOk_len h
 have hc := NoteOk_cmds h
 unfold NoteOk at h
 simp only [Zb, Za] at h
 obtain ⟨a1, a2, a3, a4, a5⟩ := h
 have a1 := within_hi a1
 have a2 := within_hi a2
 have hk := kind_facts a5
 refine ⟨hk.1, a1, hk.2, a2, fun e he => ⟨hc e he, ?_⟩, hl⟩
 simp only [spec_l9List, Zb, Zu] at a3
 have := a3.1 e he
 simp only [eOk, Zb] at this
 have := within_hi this.1
 omega
theorem note_wr {s : R} {rest : List Int} {r : Note} (hr : NoteOk r = true) (h : Sees s (spec_l9Body r ++ rest)) : ∃ u, spec_l9Read s = (u, r) /\ Sees u rest /\ u.1 = s.1 := by
 obtain ⟨f1, f2, f3, f4, f5, f6, f7⟩ := note_facts hr
 unfold spec_l9Body headB at h
 rw [w64 (n := r.2.2.1 + 1) (by omega) (by omega)] at h
 simp only [Zk] at h
 obtain ⟨s1, e1, h1, b1⟩ := num_wr (by omega) h
 obtain ⟨s2, e2, h2, b2⟩ := num_wr (by omega) h1
 obtain ⟨s3, e3, h3, b3⟩ := num_wr (by omega) h2
 obtain ⟨s4, e4, h4, b4⟩ := num_wr (by omega) h3
 obtain ⟨s5, e5, h5, b5⟩ := num_wr (by omega) h4
 obtain ⟨s6, e6, h6, b6⟩ := ents_wr r.2.2.2.2.1 s5 _ [] f5 h5
 obtain ⟨s7, e7, h7, b7⟩ := txt_wr (by omega) h6
 refine ⟨s7, ?_, h7, by rw [b7, b6, b5, b4, b3, b2, b1]⟩
 unfold spec_l9Read rNote
 simp only [letB, e1, e2, e3, e4, e5, Int.toNat_natCast, e6, e7, List.nil_append]
 rw [show r.2.2.1 + 1 - 1 = r.2.2.1 by omega, w64 (n := r.2.2.1) (by omega) (by omega)]
theorem noteOf_of {b rest : List Int} {i : Int} {r : Note} (h0 : 0 <= i) (hr : NoteOk r = true) (h : b.drop i.toNat = NoteBytes r ++ rest) : spec_NoteOf b i = (r, (i + ((NoteBytes r).length : Int), true)) := by
 have hbl := body_len (NoteOk_len hr)
 unfold NoteBytes at h
 rw [if_pos hr] at h
 have hs : Sees (b, (i, (true, ()))) (PutNum ((spec_l9Body r).length : Int) ++ (spec_l9Body r ++ (sum4 (SumOf (spec_l9Body r)) ++ rest))) := by
  refine ⟨rfl, h0, ?_, by simpa only [Zk] using h⟩
  show i <= (b.length : Int)
  have := congrArg length h
  rw [Zs] at this
  simp only [Zf, sum4, Zg] at this
  omega
 have hg := GetNum_of h0 (n := ((spec_l9Body r).length : Int)) ⟨by omega, by omega⟩ hs.2.2.2
 have g1 := sees_go hs
 have g2 := sees_go g1.1
 simp only at g1 g2
 have hl4 : (sum4 (SumOf (spec_l9Body r))).length = 4 := rfl
 have hlen := g2.2
 rw [Zf, hl4] at hlen
 have hn : (NoteBytes r).length = (PutNum ((spec_l9Body r).length : Int)).length + (spec_l9Body r).length + 4 := by
  unfold NoteBytes; rw [if_pos hr, Zf, Zf, hl4]
 have d1 := g1.1.2.2.2
 have d2 := g2.1.2.2.2
 simp only at d1 d2
 unfold spec_NoteOf ofV
 rw [hg]
 simp only [if_true]
 rw [if_neg (by omega)]
 have hbody : dropTake (i + ((PutNum ((spec_l9Body r).length : Int)).length : Int)).toNat (i + ((PutNum ((spec_l9Body r).length : Int)).length : Int) + ((spec_l9Body r).length : Int)).toNat b = spec_l9Body r := by
  unfold dropTake
  rw [d1, show (i + ((PutNum ((spec_l9Body r).length : Int)).length : Int) + ((spec_l9Body r).length : Int)).toNat - (i + ((PutNum ((spec_l9Body r).length : Int)).length : Int)).toNat = (spec_l9Body r).length by omega, List.take_left]
 have hsum : dropTake (i + ((PutNum ((spec_l9Body r).length : Int)).length : Int) + ((spec_l9Body r).length : Int) + 4 - 4).toNat (i + ((PutNum ((spec_l9Body r).length : Int)).length : Int) + ((spec_l9Body r).length : Int) + 4).toNat b = sum4 (SumOf (spec_l9Body r)) := by
  unfold dropTake
  rw [show i + ((PutNum ((spec_l9Body r).length : Int)).length : Int) + ((spec_l9Body r).length : Int) + 4 - 4 = i + ((PutNum ((spec_l9Body r).length : Int)).length : Int) + ((spec_l9Body r).length : Int) by omega, d2,
   show (i + ((PutNum ((spec_l9Body r).length : Int)).length : Int) + ((spec_l9Body r).length : Int) + 4).toNat - (i + ((PutNum ((spec_l9Body r).length : Int)).length : Int) + ((spec_l9Body r).length : Int)).toNat = (sum4 (SumOf (spec_l9Body r))).length by rw [hl4]; omega, List.take_left]
 rw [hbody, hsum, if_pos rfl]
 have hin : Sees (spec_l9Body r, ((0 : Int), (true, ()))) (spec_l9Body r ++ []) := ⟨rfl, Int.le_refl _, by show (0 : Int) <= _; omega, by simp⟩
 obtain ⟨u, e1, e2, e3⟩ := note_wr hr hin
 have hu : u.2.1 = ((spec_l9Body r).length : Int) := by
  have h4 := e2.2.2.2
  have := congrArg length h4
  rw [Zs, e3] at this
  have h3 := e2.2.2.1
  rw [e3] at h3
  simp only [Zh] at this h3
  have := e2.2.1
  omega
 have hok : inOk (spec_l9Body r) = true := by
  unfold inOk eqI
  rw [e1, e2.1, hu, hr]; simp
 rw [if_pos hok, e1, hn]
 simp only [Prod.mk.injEq, and_true, true_and]
 omega
def noteBody (b : List Int) (v : Int × (Int × Bool)) : List Int := dropTake v.2.1.toNat (v.2.1 + v.1).toNat b
theorem noteOf_cases (b : List Int) (i : Int) : spec_NoteOf b i = (zNote, (0, false)) \/ ((GetNum b i).2.2 = true /\ (GetNum b i).1 <= (b.length : Int) - (GetNum b i).2.1 - 4 /\ inOk (noteBody b (GetNum b i)) = true /\
 spec_NoteOf b i = ((spec_l9Read (noteBody b (GetNum b i), (0, (true, ())))).2, ((GetNum b i).2.1 + (GetNum b i).1 + 4, true))) := by
 by_cases c1 : (GetNum b i).2.2 = true
 case neg => exact .inl (if_neg c1)
 by_cases c2 : (b.length : Int) - (GetNum b i).2.1 - 4 < (GetNum b i).1
 case pos => exact .inl ((if_pos c1).trans (if_pos c2))
 by_cases c3 : strOf (sum4 (SumOf (noteBody b (GetNum b i)))) = strOf (dropTake ((GetNum b i).2.1 + (GetNum b i).1 + 4 - 4).toNat ((GetNum b i).2.1 + (GetNum b i).1 + 4).toNat b)
 case neg => exact .inl ((if_pos c1).trans ((if_neg c2).trans (if_neg c3)))
 by_cases c4 : inOk (noteBody b (GetNum b i)) = true
 case neg => exact .inl ((if_pos c1).trans ((if_neg c2).trans ((if_pos c3).trans (if_neg c4))))
 exact .inr ⟨c1, by omega, c4, (if_pos c1).trans ((if_neg c2).trans ((if_pos c3).trans (if_pos c4)))⟩
theorem implOf_cases (b : List Int) (i : Int) : impl_NoteOf b i = (zNote, (0, false)) \/ (strOf (NoteBytes (impl_NoteOf b i).1) = strOf (dropTake i.toNat (impl_NoteOf b i).2.1.toNat b)) := by
 by_cases c1 : (impl_GetNum b i).2.2 = true
 case neg => exact .inl (if_neg c1)
 by_cases c2 : (b.length : Int) - (impl_GetNum b i).2.1 - 4 < (impl_GetNum b i).1
 case pos => exact .inl ((if_pos c1).trans (if_pos c2))
 by_cases c3 : (impl_noteIn (noteBody b (impl_GetNum b i))).2 = true
 case neg => exact .inl ((if_pos c1).trans ((if_neg c2).trans (if_neg c3)))
 by_cases c4 : strOf (NoteBytes (impl_noteIn (noteBody b (impl_GetNum b i))).1) = strOf (dropTake i.toNat ((impl_GetNum b i).2.1 + (impl_GetNum b i).1 + 4).toNat b)
 case neg => exact .inl ((if_pos c1).trans ((if_neg c2).trans ((if_pos c3).trans (if_neg c4))))
 have e : impl_NoteOf b i = ((impl_noteIn (noteBody b (impl_GetNum b i))).1, ((impl_GetNum b i).2.1 + (impl_GetNum b i).1 + 4, true)) := (if_pos c1).trans ((if_neg c2).trans ((if_pos c3).trans (if_pos c4)))
 right
 rw [e]
 exact c4
theorem strOf_inj {a b : List Int} (ha : isBytes a = true) (hb : isBytes b = true) (h : strOf a = strOf b) : a = b := by
 rw [<- bytesOf_strOf ha, <- bytesOf_strOf hb, h]
theorem noteOf_is {b : List Int} {i : Int} (hb : isBytes b = true) (hl : b.length <= 9223372036854775802) (h : (spec_NoteOf b i).2.2 = true) :
 0 <= i /\ NoteOk (spec_NoteOf b i).1 = true /\ i <= (spec_NoteOf b i).2.1 /\ (spec_NoteOf b i).2.1 <= (b.length : Int) /\ dropTake i.toNat (spec_NoteOf b i).2.1.toNat b = NoteBytes (spec_NoteOf b i).1 /\ (spec_NoteOf b i).2.1 = i + ((NoteBytes (spec_NoteOf b i).1).length : Int) := by
 have hs := NoteOf_same i hb hl
 rcases noteOf_cases b i with h1 | ⟨c1, c2, c3, c4⟩
 . rw [h1] at h; cases h
 have g := GetNum_put hb c1
 have hok : NoteOk (spec_NoteOf b i).1 = true := by
  rw [c4]
  unfold inOk at c3
  simp only [Zb] at c3
  exact c3.2.2
 have hpos : i <= (spec_NoteOf b i).2.1 /\ (spec_NoteOf b i).2.1 <= (b.length : Int) := by
  rw [c4]
  simp only
  omega
 have hdt : dropTake i.toNat (spec_NoteOf b i).2.1.toNat b = NoteBytes (spec_NoteOf b i).1 := by
  rcases implOf_cases b i with h2 | h2
  . rw [<- hs, h2] at h; cases h
  . rw [hs] at h2
    exact (strOf_inj (NoteBytes_bytes _) (isBytes_dropTake hb _ _) h2).symm
 refine ⟨g.1, hok, hpos.1, hpos.2, hdt, ?_⟩
 rw [<- hdt, Go.Aw.dropTake_len (by omega) (by omega)]
 omega
theorem drop_of {b : List Int} {i j : Nat} (h : i <= j) (hj : j <= b.length) : b.drop i = dropTake i j b ++ b.drop j := by
 unfold dropTake
 conv => lhs; rw [<- List.take_append_drop (j - i) (b.drop i), List.drop_drop, show i + (j - i) = j by omega]
namespace spec_l7Dent
def pre (c : Cur) (b : List Int) : Bool := curB c && (decide (b.length <= 1000000) && isBytes b)
abbrev wf (x0 : zt11) (x1 : (List Int)) : Prop := wfA [(.ref zk34 .f), (.val zk20 .o)] (x0, (x1, ()))
noncomputable def raw (x0 : zt11) (x1 : (List Int)) : Option (zt38 × zt12) :=
 if (spec_l1Below.pre x0 (wrap .i64 (((length x1 : Nat) : Int) + (1 : Int)))) = true then
 letB (spec_l1Below x0 (wrap .i64 (((length x1 : Nat) : Int) + (1 : Int)))) fun v1 =>
 if (spec_l1Below.pre v1.1 (5 : Int)) = true then
 letB (spec_l1Below v1.1 (5 : Int)) fun v2 =>
 if (decide (v2.2 = (0 : Int))) = true then
 if (decide ((0 : Int) <= (0 : Int))) = true then
 if (decide ((0 : Int) <= v1.2)) = true then
 if (decide (v1.2 <= ((length x1 : Nat) : Int))) = true then
 some ((v2.1, ()), ((dropTake (Int.toNat (0 : Int)) (Int.toNat v1.2) x1), ()))
 else
 none
 else
 none
 else
 none
 else
 if (decide (v2.2 = (1 : Int))) = true then
 if (decide ((0 : Int) <= (0 : Int))) = true then
 if (decide ((0 : Int) <= v1.2)) = true then
 if (decide (v1.2 <= ((length x1 : Nat) : Int))) = true then
 if (decide (length ([] : List Int) + length (dropTake (Int.toNat (0 : Int)) (Int.toNat v1.2) x1) <= lim)) = true then
 if (spec_l1PickInt.pre v2.1 ((0 : Int) :: ((1 : Int) :: ((128 : Int) :: ((3 : Int) :: ([] : List Int)))))) = true then
 if (decide ((0 : Int) <= v1.2)) = true then
 if (decide (v1.2 <= ((length x1 : Nat) : Int))) = true then
 if (decide (((length x1 : Nat) : Int) <= ((length x1 : Nat) : Int))) = true then
 letB (spec_l1PickInt v2.1 ((0 : Int) :: ((1 : Int) :: ((128 : Int) :: ((3 : Int) :: ([] : List Int)))))) fun v3 =>
 if (decide (length ((wrap .u8 v3.2) :: ([] : List Int)) + length (dropTake (Int.toNat v1.2) (Int.toNat ((length x1 : Nat) : Int)) x1) <= lim)) = true then
 if (decide (length (List.append ([] : List Int) (dropTake (Int.toNat (0 : Int)) (Int.toNat v1.2) x1)) + length (List.append ((wrap .u8 v3.2) :: ([] : List Int)) (dropTake (Int.toNat v1.2) (Int.toNat ((length x1 : Nat) : Int)) x1)) <= lim)) = true then
 some ((v3.1, ()), ((List.append (List.append ([] : List Int) (dropTake (Int.toNat (0 : Int)) (Int.toNat v1.2) x1)) (List.append ((wrap .u8 v3.2) :: ([] : List Int)) (dropTake (Int.toNat v1.2) (Int.toNat ((length x1 : Nat) : Int)) x1))), ()))
 else
 none
 else
 none
 else
 none
 else
 none
 else
 none
 else
 none
 else
 none
 else
 none
 else
 none
 else
 none
 else
 some ((v2.1, ()), (x1, ()))
 else
 none
 else
 none
theorem wp (x0 : Cur) (x1 : List Int) (hp : pre x0 x1 = true) : Wp (raw x0 x1) (fun r => dP (bytesP (x1.length + 1)) (r.1.1, r.2.1)) := by
 unfold raw
 simp only [pre, Zb, Za] at hp
 obtain ⟨hc, hl, hb⟩ := hp
 rw [w64 (n := (x1.length : Int) + 1) (by omega) (by omega)]
 refine W_if (show spec_l1Below.pre x0 _ = true from hc) (W_fact (spec_l1Below_sp hc) fun a ha => ?_)
 have a1 := ha.2.1; have a2 := ha.2.2 (by omega)
 refine W_if (show spec_l1Below.pre a.1 _ = true from ha.1) (W_fact (spec_l1Below_sp ha.1) fun k hk => W_ite (fun _ => ?_) fun _ => W_ite (fun _ => ?_) fun _ => W_some ⟨hk.1, by show x1.length <= x1.length + 1; omega, hb⟩)
 . refine W_if (by decide) (W_if (Zd a1) (W_if (Zd (by omega)) (W_some ⟨hk.1, ?_, isBytes_dropTake hb _ _⟩)))
   show (dropTake _ _ x1).length <= _
   simp only [dropTake, Zr, Zs]; omega
 . have hpk : spec_l1PickInt.pre k.1 ((0 : Int) :: ((1 : Int) :: ((128 : Int) :: ((3 : Int) :: ([] : List Int))))) = true := pick_pre hk.1 (by decide)
   refine W_if (by decide) (W_if (Zd a1) (W_if (Zd (by omega)) (W_if (by simp only [Za, Zh, dropTake, Zr, Zs, lim]; omega) (W_if hpk (W_if (Zd a1) (W_if (Zd (by omega)) (W_if (Zd (Int.le_refl _)) (W_fact (spec_l1PickInt_sp hpk) fun d hd => W_if (by simp only [Za, Zg, Zh, dropTake, Zr, Zs, lim]; omega) (W_if (by simp only [Za, List.append_eq, Zf, Zg, Zh, dropTake, Zr, Zs, lim]; omega) (W_some ⟨hd.1, ?_, ?_⟩))))))))))
   . show (List.append (List.append ([] : List Int) (dropTake _ _ x1)) (List.append (_ :: ([] : List Int)) (dropTake _ _ x1))).length <= _
     simp only [List.append_eq, Zf, Zg, Zh, dropTake, Zr, Zs]; omega
   . show isBytes (List.append (List.append ([] : List Int) (dropTake _ _ x1)) (List.append (_ :: ([] : List Int)) (dropTake _ _ x1))) = true
     simp only [List.append_eq, isBytes_app, isBytes_cons, isBytes_dropTake hb]
     rw [Zd (wrap8_byte _).1, Zd (wrap8_byte _).2]; rfl
noncomputable def val (x0 : Cur) (x1 : List Int) : Cur × List Int := ((got (raw x0 x1)).1.1, (got (raw x0 x1)).2.1)
theorem eq (x0 : Cur) (x1 : List Int) (_ : wf x0 x1) (hp : pre x0 x1 = true) : raw x0 x1 = some (((val x0 x1).1, ()), ((val x0 x1).2, ())) := (got_eq (wp x0 x1 hp)).1
end spec_l7Dent
noncomputable def spec_l7Dent (x0 : Cur) (x1 : List Int) : Cur × List Int := spec_l7Dent.val x0 x1
theorem spec_l7Dent_sp {x0 : Cur} {x1 : List Int} (hp : spec_l7Dent.pre x0 x1 = true) : dP (bytesP (x1.length + 1)) (spec_l7Dent x0 x1) := (got_eq (spec_l7Dent.wp x0 x1 hp)).2
theorem dent_pre {c : Cur} {b : List Int} (h : curB c = true) (hb : bytesP 1000000 b) : spec_l7Dent.pre c b = true := by
 simp only [spec_l7Dent.pre, Zb, Za]; exact ⟨h, hb.1, hb.2⟩
namespace spec_DrawNoteOf
def pre (x : List Int) : Bool := small x
abbrev wf (x0 : (List Int)) : Prop := wfA [(.val zk20 .f)] (x0, ())
noncomputable def raw (x0 : (List Int)) : Option (Unit × Disk) :=
 if (spec_l1New.pre x0) = true then
 letB (spec_l1New x0) fun v1 =>
 if (spec_l9DrawRight.pre v1) = true then
 letB (spec_l9DrawRight v1) fun v2 =>
 if (spec_l9DrawBytes.pre v2.1) = true then
 letB (NoteBytes v2.2) fun v3 =>
 letB (spec_l9DrawBytes v2.1) fun v4 =>
 if (decide (length v3 + length v4.2 <= lim)) = true then
 if (spec_l7Dent.pre v4.1 (List.append v3 v4.2)) = true then
 letB (spec_l7Dent v4.1 (List.append v3 v4.2)) fun v5 =>
 if (spec_l1PickInt.pre v5.1 ((0 : Int) :: ((0 : Int) :: ((0 : Int) :: ((1 : Int) :: (((length v5.2 : Nat) : Int) :: ((-1 : Int) :: ([] : List Int)))))))) = true then
 letB (spec_l1PickInt v5.1 ((0 : Int) :: ((0 : Int) :: ((0 : Int) :: ((1 : Int) :: (((length v5.2 : Nat) : Int) :: ((-1 : Int) :: ([] : List Int)))))))) fun v6 =>
 some ((), (v5.2, (v6.2, ())))
 else
 none
 else
 none
 else
 none
 else
 none
 else
 none
 else
 none
theorem wp (x0 : List Int) (hp : pre x0 = true) : Wp (raw x0) (fun r => bytesP 200000 r.2.1) := by
 unfold raw
 refine W_if (show spec_l1New.pre x0 = true from hp) (W_fact (P := fun c : Cur => curB c = true) (spec_l1New_sp hp) fun a ha => W_if (show spec_l9DrawRight.pre a = true from ha) (W_fact (spec_l9DrawRight_sp ha) fun b hb => W_if (show spec_l9DrawBytes.pre b.1 = true from hb.1) (W_let (W_fact (spec_l9DrawBytes_sp hb.1) fun c hc => ?_))))
 have l1 := NoteBytes_len b.2
 have l2 : c.2.length <= 123000 := hc.2.1
 have hbp : bytesP 1000000 (List.append (NoteBytes b.2) c.2) := ⟨by rw [List.append_eq, Zf]; omega, by rw [List.append_eq, isBytes_app, NoteBytes_bytes, hc.2.2]; rfl⟩
 refine W_if (by simp only [Za, lim]; omega) (W_if (dent_pre hc.1 hbp) (W_fact (spec_l7Dent_sp (dent_pre hc.1 hbp)) fun d hd => ?_))
 have l3 := hd.2.1
 rw [List.append_eq, Zf] at l3
 refine W_if (pick_pre hd.1 (by show 0 < 6; omega)) (W_fact (spec_l1PickInt_sp (pick_pre hd.1 (by show 0 < 6; omega))) fun e he => W_some ⟨by show d.2.length <= 200000; omega, hd.2.2⟩)
noncomputable def val (x0 : List Int) : List Int × Int := ((got (raw x0)).2.1, (got (raw x0)).2.2.1)
theorem eq (x0 : List Int) (_ : wf x0) (hp : pre x0 = true) : raw x0 = some ((), ((val x0).1, ((val x0).2, ()))) := (got_eq (wp x0 hp)).1
end spec_DrawNoteOf
noncomputable def spec_DrawNoteOf (x0 : List Int) : List Int × Int := spec_DrawNoteOf.val x0
theorem spec_DrawNoteOf_sp {x0 : List Int} (hp : small x0 = true) : bytesP 200000 (spec_DrawNoteOf x0).1 := (got_eq (spec_DrawNoteOf.wp x0 hp)).2
noncomputable def laws_at (x : List Int) (i : Int) : Int := if i < (x.length : Int) then wrap .i64 (x.getD i.toNat 0) else Int.tmod (wrap .i64 (wrap .i64 (i * 7) + (x.length : Int))) 256
namespace laws_at
def pre (_ : List Int) (i : Int) : Bool := decide (0 <= i)
abbrev wf (x0 : (List Int)) (x1 : Int) : Prop := wfA [(.val zk20 .f), (.val (.int .i64) .f)] (x0, (x1, ()))
noncomputable def raw (x0 : (List Int)) (x1 : Int) : Option (Unit × (Int × Unit)) :=
 if (decide (x1 < ((length x0 : Nat) : Int))) = true then
 if (decide ((0 : Int) <= x1)) = true then
 if (decide (x1 < ((length x0 : Nat) : Int))) = true then
 some ((), ((wrap .i64 (List.getD x0 (Int.toNat x1) (0 : Int))), ()))
 else
 none
 else
 none
 else
 if (!(decide ((256 : Int) = (0 : Int)))) = true then
 some ((), ((Int.tmod (wrap .i64 ((wrap .i64 (x1 * (7 : Int))) + ((length x0 : Nat) : Int))) (256 : Int)), ()))
 else
 none
theorem eq (x0 : List Int) (x1 : Int) (_ : wf x0 x1) (hp : pre x0 x1 = true) : raw x0 x1 = some ((), (laws_at x0 x1, ())) := by
 simp only [pre, Za] at hp
 unfold raw laws_at
 by_cases h : x1 < (x0.length : Int)
 . rw [if_pos (Zd h), if_pos h]
   exact E_if (Zd hp) (E_if (Zd h) rfl)
 . rw [if_neg (by rw [Za]; exact h), if_neg h]
   exact E_if (by decide) rfl
end laws_at
theorem cut_of {b : List Int} {c : Nat} {i : Int} (hb : isBytes b = true) (hl : b.length <= 1000000) (h : (spec_NoteOf (b.take c) i).2.2 = true) : spec_NoteOf b i = spec_NoteOf (b.take c) i := by
 obtain ⟨g1, g2, g3, g4, g5, g6⟩ := noteOf_is (isBytes_take hb c) (by rw [Zr]; omega) h
 rw [Zr] at g4
 have e : b.drop i.toNat = NoteBytes (spec_NoteOf (b.take c) i).1 ++ b.drop (spec_NoteOf (b.take c) i).2.1.toNat := by
  rw [drop_of (i := i.toNat) (j := (spec_NoteOf (b.take c) i).2.1.toNat) (by omega) (by omega), <- g5]
  congr 1
  unfold dropTake
  rw [List.drop_take, List.take_take, Nat.min_eq_left (by omega)]
 rw [noteOf_of g1 g2 e, <- g6]
 have : spec_NoteOf (b.take c) i = ((spec_NoteOf (b.take c) i).1, ((spec_NoteOf (b.take c) i).2.1, (spec_NoteOf (b.take c) i).2.2)) := rfl
 rw [this, h]
theorem at_range {x : List Int} {i : Int} (hb : isBytes x = true) (hl : x.length <= 16777216) (h0 : 0 <= i) (h1 : i <= 100) : 0 <= laws_at x i /\ laws_at x i <= 255 := by
 unfold laws_at
 split
 . rename_i h
   have := isBytes_get hb (i := i.toNat) (by omega)
   rw [getD_get (by omega), w64 (by omega) (by omega)]
   exact this
 . rw [w64 (n := i * 7) (by omega) (by omega), w64 (n := i * 7 + (x.length : Int)) (by omega) (by omega), Int.tmod_eq_emod_of_nonneg (by omega)]
   omega
def tot : List Int -> Int
 | [] => 0
 | a :: r => a + tot r
theorem sums : (b : List Int) -> (s t : Int) -> isBytes b = true -> 0 <= s -> s < 65521 -> 0 <= t -> t < 65521 -> (b.foldl sumF (s, t)).1 = (s + tot b) % 65521 /\ 0 <= (b.foldl sumF (s, t)).2 /\ (b.foldl sumF (s, t)).2 < 65521
 | [], s, t, _, h1, h2, h3, h4 => by
  simp only [List.foldl_nil, tot]
  exact ⟨by omega, h3, h4⟩
 | a :: r, s, t, hb, h1, h2, h3, h4 => by
  obtain ⟨b0, b1, b2⟩ := isBytes_tail hb
  have e1 : sumF (s, t) a = ((s + a) % 65521, (t + (s + a) % 65521) % 65521) := by
   unfold sumF
   simp only
   rw [w64 (n := a) (by omega) (by omega), w64 (n := s + a) (by omega) (by omega), Int.tmod_eq_emod_of_nonneg (show 0 <= s + a by omega), w64 (n := t + (s + a) % 65521) (by omega) (by omega), Int.tmod_eq_emod_of_nonneg (by omega)]
  simp only [List.foldl_cons, e1, tot]
  have := sums r ((s + a) % 65521) ((t + (s + a) % 65521) % 65521) b2 (by omega) (by omega) (by omega) (by omega)
  exact ⟨by rw [this.1]; omega, this.2⟩
theorem sum_low {b : List Int} (hb : isBytes b = true) : SumOf b % 65536 = (1 + tot b) % 65521 /\ 0 <= SumOf b /\ SumOf b <= 4294967295 := by
 obtain ⟨h1, h2, h3⟩ := sums b 1 0 hb (by omega) (by omega) (by omega) (by omega)
 unfold SumOf
 have := Int.emod_nonneg (1 + tot b) (show (65521 : Int) ≠ 0 by decide)
 have := Int.emod_lt_of_pos (1 + tot b) (show (0 : Int) < 65521 by decide)
 rw [w64 (n := (b.foldl sumF (1, 0)).2 * 65536) (by omega) (by omega), w64 (by omega) (by omega), h1]
 omega
theorem wrap8 (n : Int) : wrap .u8 n = n % 256 := by
 simp [wrap, IntKind.signed, IntKind.bits]
theorem fdiv8 (x : Int) : Int.fdiv x (2 ^ min (Int.toNat (8 : Int)) (IntKind.bits .i64)) = x / 256 := by
 show Int.fdiv x (2 ^ 8) = x / 256
 rw [Int.fdiv_eq_ediv_of_nonneg _ (by decide)]; rfl
theorem sum4_low {s t : Int} (h : sum4 s = sum4 t) : s % 65536 = t % 65536 := by
 unfold sum4 at h
 rw [fdiv8, fdiv8] at h
 simp only [List.cons.injEq, wrap8] at h
 omega
theorem tot_set : (b : List Int) -> (p : Nat) -> (v : Int) -> (h : p < b.length) -> tot (b.set p v) = tot b - b[p] + v
 | [], _, _, h => by cases h
 | a :: r, 0, v, _ => by simp only [List.set_cons_zero, tot, List.getElem_cons_zero]; omega
 | a :: r, p + 1, v, h => by
  simp only [List.set_cons_succ, tot, List.getElem_cons_succ]
  rw [tot_set r p v (by simpa using h)]
  omega
theorem set_sum {b : List Int} {p : Nat} {v : Int} (hb : isBytes b = true) (hp : p < b.length) (hv : 0 <= v /\ v <= 255) (hne : v ≠ b[p]) : sum4 (SumOf (b.set p v)) ≠ sum4 (SumOf b) := by
 intro h
 have hb2 : isBytes (b.set p v) = true := by
  rw [isBytes_mem]
  intro x hx
  rcases List.mem_or_eq_of_mem_set hx with hx | rfl
  . exact isBytes_mem.1 hb x hx
  . exact hv
 have h1 := (sum_low hb).1
 have h2 := (sum_low hb2).1
 have h3 := sum4_low h
 have h4 := isBytes_get hb hp
 rw [h1, h2, tot_set b p v hp] at h3
 omega
theorem xor_ne {x k : Int} (h0 : 0 <= x) (h1 : x <= 255) (k0 : 0 <= k) (k1 : k < 8) : intBits .xor .u8 x (wrap .u8 (1 * 2 ^ min k.toNat (IntKind.bits .u8))) ≠ x /\ 0 <= intBits .xor .u8 x (wrap .u8 (1 * 2 ^ min k.toNat (IntKind.bits .u8))) /\ intBits .xor .u8 x (wrap .u8 (1 * 2 ^ min k.toNat (IntKind.bits .u8))) <= 255 := by
 have hm : ∃ m : Int, wrap .u8 (1 * 2 ^ min k.toNat (IntKind.bits .u8)) = m /\ 1 <= m /\ m <= 255 := by
  have : k = 0 \/ k = 1 \/ k = 2 \/ k = 3 \/ k = 4 \/ k = 5 \/ k = 6 \/ k = 7 := by omega
  rcases this with rfl | rfl | rfl | rfl | rfl | rfl | rfl | rfl <;> exact ⟨_, rfl, by decide, by decide⟩
 obtain ⟨m, e, m0, m1⟩ := hm
 rw [e]
 have ex : intBits .xor .u8 x m = wrap .u8 (((BitVec.ofInt 8 x) ^^^ (BitVec.ofInt 8 m)).toNat : Int) := rfl
 have hlt := ((BitVec.ofInt 8 x) ^^^ (BitVec.ofInt 8 m)).isLt
 rw [ex, w8 (by omega) (by omega)]
 refine ⟨fun h => ?_, by omega, by omega⟩
 have hx : (BitVec.ofInt 8 x).toNat = x.toNat := ofInt_nat h0 (by omega)
 have h2 : (BitVec.ofInt 8 x) ^^^ (BitVec.ofInt 8 m) = BitVec.ofInt 8 x := BitVec.eq_of_toNat_eq (by rw [hx]; omega)
 have h3 : BitVec.ofInt 8 m = 0#8 := by
  have := congrArg (fun z => (BitVec.ofInt 8 x) ^^^ z) h2
  simp only [<- BitVec.xor_assoc, BitVec.xor_self, BitVec.zero_xor] at this
  exact this
 have h4 := congrArg BitVec.toNat h3
 rw [ofInt_nat (by omega) (by omega)] at h4
 simp at h4
 omega
theorem note_parts {r : Note} (hr : NoteOk r = true) : NoteBytes r = PutNum ((spec_l9Body r).length : Int) ++ (spec_l9Body r ++ sum4 (SumOf (spec_l9Body r))) := by
 unfold NoteBytes; rw [if_pos hr, Zk]
theorem cut_none {r : Note} {c : Nat} (hr : NoteOk r = true) (hc : c < (NoteBytes r).length) : ¬ (spec_NoteOf ((NoteBytes r).take c) 0).2.2 = true := by
 intro h
 have hl := NoteBytes_len r
 have h1 := cut_of (NoteBytes_bytes r) (by omega) h
 have h2 := noteOf_of (b := NoteBytes r) (i := 0) (rest := []) (Int.le_refl _) hr (by simp)
 have h3 := noteOf_is (isBytes_take (NoteBytes_bytes r) c) (by rw [Zr]; omega) h
 rw [<- h1, h2] at h3
 have h4 := h3.2.2.2.1
 rw [Zr] at h4
 simp only at h4
 omega
theorem flip_none {r : Note} {q : Nat} {v : Int} (hr : NoteOk r = true) (h1 : (PutNum ((spec_l9Body r).length : Int)).length <= q) (h2 : q < (NoteBytes r).length) (hv : 0 <= v /\ v <= 255) (hne : v ≠ (NoteBytes r).getD q 0) : ¬ (spec_NoteOf ((NoteBytes r).set q v) 0).2.2 = true := by
 intro h
 have hl := NoteBytes_len r
 have hbl := body_len (NoteOk_len hr)
 have hb2 : isBytes ((NoteBytes r).set q v) = true := by
  rw [isBytes_mem]
  intro x hx
  rcases List.mem_or_eq_of_mem_set hx with hx | rfl
  . exact isBytes_mem.1 (NoteBytes_bytes r) x hx
  . exact hv
 obtain ⟨g1, g2, g3, g4, g5, g6⟩ := noteOf_is hb2 (by rw [List.length_set]; omega) h
 generalize hr' : (spec_NoteOf ((NoteBytes r).set q v) 0).1 = r' at *
 generalize he : (spec_NoteOf ((NoteBytes r).set q v) 0).2.1 = e at *
 have hbl' := body_len (NoteOk_len g2)
 have hsplit := drop_of (b := (NoteBytes r).set q v) (i := 0) (j := e.toNat) (by omega) (by omega)
 rw [List.drop_zero] at hsplit
 rw [show dropTake 0 e.toNat ((NoteBytes r).set q v) = NoteBytes r' from g5, note_parts g2] at hsplit
 have hset : (NoteBytes r).set q v = PutNum ((spec_l9Body r).length : Int) ++ (spec_l9Body r ++ sum4 (SumOf (spec_l9Body r))).set (q - (PutNum ((spec_l9Body r).length : Int)).length) v := by
  rw [note_parts hr, List.set_append_right _ _ h1]
 generalize hrest : ((NoteBytes r).set q v).drop e.toNat = rest at hsplit
 rw [hset] at hsplit
 have n1 := GetNum_of (b := PutNum ((spec_l9Body r).length : Int) ++ (spec_l9Body r ++ sum4 (SumOf (spec_l9Body r))).set (q - (PutNum ((spec_l9Body r).length : Int)).length) v) (i := 0) (n := ((spec_l9Body r).length : Int)) (Int.le_refl _) ⟨by omega, by omega⟩ rfl
 have n2 := GetNum_of (b := PutNum ((spec_l9Body r).length : Int) ++ (spec_l9Body r ++ sum4 (SumOf (spec_l9Body r))).set (q - (PutNum ((spec_l9Body r).length : Int)).length) v) (i := 0) (n := ((spec_l9Body r').length : Int)) (rest := spec_l9Body r' ++ sum4 (SumOf (spec_l9Body r')) ++ rest) (Int.le_refl _) ⟨by omega, by omega⟩ (by rw [hsplit]; simp only [Int.toNat_zero, List.drop_zero, Zk])
 rw [n1] at n2
 simp only [Prod.mk.injEq] at n2
 have hn : (spec_l9Body r).length = (spec_l9Body r').length := by omega
 rw [hn, Zk, Zk] at hsplit
 have hT := List.append_cancel_left hsplit
 rw [<- hn] at hT
 have hq : q - (PutNum ((spec_l9Body r).length : Int)).length < (spec_l9Body r).length + 4 := by
  rw [note_parts hr] at h2
  simp only [Zf, sum4, Zg, Zh] at h2
  omega
 have hgetq : (NoteBytes r).getD q 0 = (spec_l9Body r ++ sum4 (SumOf (spec_l9Body r))).getD (q - (PutNum ((spec_l9Body r).length : Int)).length) 0 := by
  rw [note_parts hr, List.getD_eq_getElem?_getD, List.getElem?_append_right h1, List.getD_eq_getElem?_getD]
 rw [hgetq] at hne
 generalize q - (PutNum ((spec_l9Body r).length : Int)).length = p at *
 have hlen : rest = [] := by
  have := congrArg length hT
  simp only [List.length_set, Zf, sum4, Zg, Zh] at this
  exact List.length_eq_zero_iff.1 (by omega)
 rw [hlen, List.append_nil] at hT
 by_cases hp : p < (spec_l9Body r).length
 . rw [List.set_append_left _ _ hp] at hT
   have h3 := List.append_inj hT (by rw [List.length_set]; exact hn)
   rw [List.getD_eq_getElem?_getD, List.getElem?_append_left hp, Zm hp] at hne
   refine set_sum (body_bytes r) hp hv hne ?_
   rw [h3.1, h3.2]
 . rw [List.set_append_right _ _ (by omega)] at hT
   have h3 := List.append_inj hT hn
   rw [<- h3.1] at h3
   have hp2 : p - (spec_l9Body r).length < (sum4 (SumOf (spec_l9Body r))).length := by show _ < 4; omega
   have h4 := congrArg (fun l => l.getD (p - (spec_l9Body r).length) 0) h3.2
   simp only [List.getD_eq_getElem?_getD, List.getElem?_set_self hp2, Option.getD_some] at h4
   rw [List.getD_eq_getElem?_getD, List.getElem?_append_right (by omega)] at hne
   exact hne h4
namespace spec_l2Spoil
def pre (c : Cur) (_ : Cmd) : Bool := curB c
abbrev wf (x0 : zt11) (x1 : Cmd) : Prop := wfA [(.ref zk34 .f), (.val zk4 .f)] (x0, (x1, ()))
noncomputable def raw (x0 : zt11) (x1 : Cmd) : Option (zt38 × (Cmd × Unit)) :=
 if (spec_l1Below.pre x0 (14 : Int)) = true then
 letB (spec_l1Below x0 (14 : Int)) fun v1 =>
 if (decide (v1.2 = (0 : Int))) = true then
 if (spec_l1PickInt.pre v1.1 ((-2 : Int) :: ((-1 : Int) :: ((3 : Int) :: ((4 : Int) :: ([] : List Int)))))) = true then
 letB (spec_l1PickInt v1.1 ((-2 : Int) :: ((-1 : Int) :: ((3 : Int) :: ((4 : Int) :: ([] : List Int)))))) fun v2 =>
 some ((v2.1, ()), ((v2.2, x1.2), ()))
 else
 none
 else
 if (decide (v1.2 = (1 : Int))) = true then
 if (spec_l1PickInt.pre v1.1 ((0 : Int) :: ((-1 : Int) :: ((100000 : Int) :: ((100001 : Int) :: ([] : List Int)))))) = true then
 letB (spec_l1PickInt v1.1 ((0 : Int) :: ((-1 : Int) :: ((100000 : Int) :: ((100001 : Int) :: ([] : List Int)))))) fun v3 =>
 some ((v3.1, ()), ((x1.1, (v3.2, x1.2.2)), ()))
 else
 none
 else
 if (decide (v1.2 = (2 : Int))) = true then
 if (spec_l1PickInt.pre v1.1 ((-1 : Int) :: ((0 : Int) :: ((10 : Int) :: ((11 : Int) :: ([] : List Int)))))) = true then
 letB (spec_l1PickInt v1.1 ((-1 : Int) :: ((0 : Int) :: ((10 : Int) :: ((11 : Int) :: ([] : List Int)))))) fun v4 =>
 some ((v4.1, ()), ((x1.1, (x1.2.1, (v4.2, x1.2.2.2))), ()))
 else
 none
 else
 if (decide (v1.2 = (3 : Int))) = true then
 if (spec_l1PickInt.pre v1.1 ((-1 : Int) :: ((100000 : Int) :: ((100001 : Int) :: ((-9223372036854775808 : Int) :: ([] : List Int)))))) = true then
 letB (spec_l1PickInt v1.1 ((-1 : Int) :: ((100000 : Int) :: ((100001 : Int) :: ((-9223372036854775808 : Int) :: ([] : List Int)))))) fun v5 =>
 some ((v5.1, ()), ((x1.1, (x1.2.1, (x1.2.2.1, (v5.2, x1.2.2.2.2)))), ()))
 else
 none
 else
 if (decide (v1.2 = (4 : Int))) = true then
 if (spec_l1Pick.pre v1.1 (((65 : UInt8) :: ([] : List UInt8)) :: (((48 : UInt8) :: ((49 : UInt8) :: ((50 : UInt8) :: ((51 : UInt8) :: ((52 : UInt8) :: ((53 : UInt8) :: ((54 : UInt8) :: ((55 : UInt8) :: ((56 : UInt8) :: ((57 : UInt8) :: ((48 : UInt8) :: ((49 : UInt8) :: ((50 : UInt8) :: ((51 : UInt8) :: ((52 : UInt8) :: ((53 : UInt8) :: ((54 : UInt8) :: ((55 : UInt8) :: ((56 : UInt8) :: ((57 : UInt8) :: ((48 : UInt8) :: ((49 : UInt8) :: ((50 : UInt8) :: ((51 : UInt8) :: ((52 : UInt8) :: ((53 : UInt8) :: ((54 : UInt8) :: ((55 : UInt8) :: ((56 : UInt8) :: ((57 : UInt8) :: ((48 : UInt8) :: ([] : List UInt8)))))))))))))))))))))))))))))))) :: ([] : List (List UInt8))))) = true then
 letB (spec_l1Pick v1.1 (((65 : UInt8) :: ([] : List UInt8)) :: (((48 : UInt8) :: ((49 : UInt8) :: ((50 : UInt8) :: ((51 : UInt8) :: ((52 : UInt8) :: ((53 : UInt8) :: ((54 : UInt8) :: ((55 : UInt8) :: ((56 : UInt8) :: ((57 : UInt8) :: ((48 : UInt8) :: ((49 : UInt8) :: ((50 : UInt8) :: ((51 : UInt8) :: ((52 : UInt8) :: ((53 : UInt8) :: ((54 : UInt8) :: ((55 : UInt8) :: ((56 : UInt8) :: ((57 : UInt8) :: ((48 : UInt8) :: ((49 : UInt8) :: ((50 : UInt8) :: ((51 : UInt8) :: ((52 : UInt8) :: ((53 : UInt8) :: ((54 : UInt8) :: ((55 : UInt8) :: ((56 : UInt8) :: ((57 : UInt8) :: ((48 : UInt8) :: ([] : List UInt8)))))))))))))))))))))))))))))))) :: ([] : List (List UInt8))))) fun v6 =>
 some ((v6.1, ()), ((x1.1, (x1.2.1, (x1.2.2.1, (x1.2.2.2.1, (x1.2.2.2.2.1, (x1.2.2.2.2.2.1, (v6.2, x1.2.2.2.2.2.2.2))))))), ()))
 else
 none
 else
 some ((v1.1, ()), (x1, ()))
 else
 none
theorem wp (x0 : Cur) (x1 : Cmd) (hp : pre x0 x1 = true) : Wp (raw x0 x1) (fun r => dP (fun _ => True) (r.1.1, r.2.1)) := by
 unfold raw
 have hp : curB x0 = true := hp
 refine W_if (show spec_l1Below.pre x0 _ = true from hp) (W_fact (spec_l1Below_sp hp) fun a ha => ?_)
 have pk : ∀ {l : List Int}, 0 < l.length -> spec_l1PickInt.pre a.1 l = true := fun h => pick_pre ha.1 h
 have pt : ∀ {l : List (List UInt8)}, 0 < l.length -> spec_l1Pick.pre a.1 l = true := fun h => pickT_pre ha.1 h
 refine W_ite (fun _ => ?_) fun _ => W_ite (fun _ => ?_) fun _ => W_ite (fun _ => ?_) fun _ => W_ite (fun _ => ?_) fun _ => W_ite (fun _ => ?_) fun _ => W_some ⟨ha.1, trivial⟩
 . exact W_if (pk (by simp)) (W_fact (spec_l1PickInt_sp (pk (by simp))) fun b hb => W_some ⟨hb.1, trivial⟩)
 . exact W_if (pk (by simp)) (W_fact (spec_l1PickInt_sp (pk (by simp))) fun b hb => W_some ⟨hb.1, trivial⟩)
 . exact W_if (pk (by simp)) (W_fact (spec_l1PickInt_sp (pk (by simp))) fun b hb => W_some ⟨hb.1, trivial⟩)
 . exact W_if (pk (by simp)) (W_fact (spec_l1PickInt_sp (pk (by simp))) fun b hb => W_some ⟨hb.1, trivial⟩)
 . exact W_if (pt (by simp)) (W_fact (spec_l1Pick_sp (pt (by simp))) fun b hb => W_some ⟨hb.1, trivial⟩)
noncomputable def val (x0 : Cur) (x1 : Cmd) : Cur × Cmd := ((got (raw x0 x1)).1.1, (got (raw x0 x1)).2.1)
theorem eq (x0 : Cur) (x1 : Cmd) (_ : wf x0 x1) (hp : pre x0 x1 = true) : raw x0 x1 = some (((val x0 x1).1, ()), ((val x0 x1).2, ())) := (got_eq (wp x0 x1 hp)).1
end spec_l2Spoil
noncomputable def spec_l2Spoil (x0 : Cur) (x1 : Cmd) : Cur × Cmd := spec_l2Spoil.val x0 x1
theorem spec_l2Spoil_sp {x0 : Cur} {x1 : Cmd} (hp : curB x0 = true) : dP (fun _ => True) (spec_l2Spoil x0 x1) := (got_eq (spec_l2Spoil.wp x0 x1 hp)).2
def noteP2 (r : Note) : Prop := r.2.2.2.2.1.length <= 100 /\ r.2.2.2.2.2.1.length <= 30000
namespace spec_l9Draw
abbrev S12 : Type := (zt11 × (Int × zt16))
abbrev O12 : Type := (zt11 × (Int × zt16))
def pre12 : S12 -> Bool := fun (x1, _, _, _, _, _, _, _, _, _, _, x12, x13, _) => curB x1 && (decide (x13.length <= 50) && decide (x12.1.length <= 30000))
def mu12 : S12 -> Nat := fun (_, _, _, _, _, _, _, _, _, _, _, _, x13, _) => 60 - x13.length
def Q12 (_ : S12) (o : O12) : Prop := match o with
 | (y1, _, _, _, _, _, _, _, _, _, _, y12, y13, _) => curB y1 = true /\ y13.length <= 50 /\ y12.1.length <= 30000
noncomputable def raw12 (x1 : zt11) (x2 : Int) (x3 : Int) (x4 : Int) (x5 : Int) (x6 : zt33) (x7 : (List Entry)) (x8 : Int) (x9 : Int) (x10 : Int) (x11 : Int) (x12 : zt33) (x13 : (List Entry)) : Option ((zt11 × (Int × zt16)) ⊕ (zt11 × (Int × zt16))) :=
 if (spec_l1Below.pre x1 (2 : Int)) = true then
 letB (spec_l1Below x1 (2 : Int)) fun v1 =>
 if (decide (((length x13 : Nat) : Int) < (wrap .i64 ((40 : Int) + v1.2)))) = true then
 if (decide (length x13 + length (((0 : Int), (((-1 : Int), zd35), ())) :: ([] : List Entry)) <= lim)) = true then
 some (.inl (v1.1, (x2, (x3, (x4, (x5, (x6, (x7, (x8, (x9, (x10, (x11, (x12, ((List.append x13 (((0 : Int), (((-1 : Int), zd35), ())) :: ([] : List Entry))), ()))))))))))))))
 else
 none
 else
 some (.inr (v1.1, (x2, (x3, (x4, (x5, (x6, (x7, (x8, (x9, (x10, (x11, (x12, (x13, ()))))))))))))))
 else
 none
theorem wp12 : ∀ s, pre12 s = true -> Wp ((fun (x : S12) => raw12 x.1 x.2.1 x.2.2.1 x.2.2.2.1 x.2.2.2.2.1 x.2.2.2.2.2.1 x.2.2.2.2.2.2.1 x.2.2.2.2.2.2.2.1 x.2.2.2.2.2.2.2.2.1 x.2.2.2.2.2.2.2.2.2.1 x.2.2.2.2.2.2.2.2.2.2.1 x.2.2.2.2.2.2.2.2.2.2.2.1 x.2.2.2.2.2.2.2.2.2.2.2.2.1) s) (Step pre12 mu12 Q12 s) := by
 rintro ⟨x1, x2, x3, x4, x5, x6, x7, x8, x9, x10, x11, x12, x13, ⟨⟩⟩ hp
 simp only [pre12, Zb, Za] at hp
 obtain ⟨h1, h2, h3⟩ := hp
 show Wp (raw12 x1 x2 x3 x4 x5 x6 x7 x8 x9 x10 x11 x12 x13) _
 unfold raw12
 refine W_if (show spec_l1Below.pre x1 _ = true from h1) (W_fact (spec_l1Below_sp h1) fun a ha => W_ite (fun h => ?_) fun _ => W_some ⟨ha.1, h2, h3⟩)
 have a1 := ha.2.1; have a2 := ha.2.2 (by decide)
 rw [Za, w64 (n := 40 + a.2) (by omega) (by omega)] at h
 refine W_if (by simp only [Za, Zg, Zh, lim]; omega) (W_some ⟨?_, ?_, fun o ho => ho⟩)
 . simp only [pre12, Zb, Za, List.append_eq, Zf, Zg, Zh]
   exact ⟨ha.1, by omega, h3⟩
 . simp only [mu12, List.append_eq, Zf, Zg, Zh]; omega
noncomputable def fn12 : S12 -> O12 := runF (fun (x : S12) => raw12 x.1 x.2.1 x.2.2.1 x.2.2.2.1 x.2.2.2.2.1 x.2.2.2.2.2.1 x.2.2.2.2.2.2.1 x.2.2.2.2.2.2.2.1 x.2.2.2.2.2.2.2.2.1 x.2.2.2.2.2.2.2.2.2.1 x.2.2.2.2.2.2.2.2.2.2.1 x.2.2.2.2.2.2.2.2.2.2.2.1 x.2.2.2.2.2.2.2.2.2.2.2.2.1) mu12
theorem ok12 (x1 : Cur) (x2 x3 x4 x5 : Int) (x6 : (List UInt8) × Unit) (x7 : List Entry) (x8 x9 x10 x11 : Int) (x12 : (List UInt8) × Unit) (x13 : List Entry) (hp : pre12 (x1, (x2, (x3, (x4, (x5, (x6, (x7, (x8, (x9, (x10, (x11, (x12, (x13, ()))))))))))))) = true) :
 Rounds pre12 mu12 fn12 (x1, (x2, (x3, (x4, (x5, (x6, (x7, (x8, (x9, (x10, (x11, (x12, (x13, ()))))))))))))) (raw12 x1 x2 x3 x4 x5 x6 x7 x8 x9 x10 x11 x12 x13) := runF_ok wp12 hp
def pre (c : Cur) : Bool := curB c
abbrev wf (x0 : zt11) : Prop := wfA [(.ref zk34 .f)] (x0, ())
noncomputable def raw (x0 : zt11) : Option (zt38 × (Note × Unit)) :=
 if (spec_l9DrawRight.pre x0) = true then
 letB (spec_l9DrawRight x0) fun v1 =>
 if (spec_l1Below.pre v1.1 (14 : Int)) = true then
 letB (spec_l1Below v1.1 (14 : Int)) fun v2 =>
 if (decide (v2.2 = (0 : Int))) = true then
 if (spec_l1Below.pre v2.1 (6 : Int)) = true then
 letB (spec_l1Below v2.1 (6 : Int)) fun v3 =>
 some ((v3.1, ()), (((wrap .i64 (v3.2 - (1 : Int))), v1.2.2), ()))
 else
 none
 else
 if (decide (v2.2 = (1 : Int))) = true then
 if (spec_l1PickInt.pre v2.1 ((-1 : Int) :: ((300 : Int) :: ((301 : Int) :: ([] : List Int))))) = true then
 letB (spec_l1PickInt v2.1 ((-1 : Int) :: ((300 : Int) :: ((301 : Int) :: ([] : List Int))))) fun v4 =>
 some ((v4.1, ()), ((v1.2.1, (v4.2, v1.2.2.2)), ()))
 else
 none
 else
 if (decide (v2.2 = (2 : Int))) = true then
 if (spec_l1PickInt.pre v2.1 ((-2 : Int) :: ((4 : Int) :: ((5 : Int) :: ([] : List Int))))) = true then
 letB (spec_l1PickInt v2.1 ((-2 : Int) :: ((4 : Int) :: ((5 : Int) :: ([] : List Int))))) fun v5 =>
 some ((v5.1, ()), ((v1.2.1, (v1.2.2.1, (v5.2, v1.2.2.2.2))), ()))
 else
 none
 else
 if (decide (v2.2 = (3 : Int))) = true then
 if (spec_l1Below.pre v2.1 (3 : Int)) = true then
 letB (spec_l1Below v2.1 (3 : Int)) fun v6 =>
 if (spec_l2DrawRight.pre v6.1) = true then
 letB (spec_l2DrawRight v6.1) fun v7 =>
 if (spec_l2Spoil.pre v7.1 v7.2) = true then
 letB (spec_l2Spoil v7.1 v7.2) fun v8 =>
 if (decide (length v1.2.2.2.2.2.1 + length ((v6.2, (v8.2, ())) :: ([] : List Entry)) <= lim)) = true then
 some ((v8.1, ()), ((v1.2.1, (v1.2.2.1, (v1.2.2.2.1, (v1.2.2.2.2.1, ((List.append v1.2.2.2.2.2.1 ((v6.2, (v8.2, ())) :: ([] : List Entry))), v1.2.2.2.2.2.2))))), ()))
 else
 none
 else
 none
 else
 none
 else
 none
 else
 if (decide (v2.2 = (4 : Int))) = true then
 if (spec_l9Draw.pre12 (v2.1, ((0 : Int), ((0 : Int), ((0 : Int), ((0 : Int), ((([] : List UInt8), ()), (([] : List Entry), (v1.2.1, (v1.2.2.1, (v1.2.2.2.1, (v1.2.2.2.2.1, (v1.2.2.2.2.2.2, (v1.2.2.2.2.2.1, ())))))))))))))) = true then
 letB (spec_l9Draw.fn12 (v2.1, ((0 : Int), ((0 : Int), ((0 : Int), ((0 : Int), ((([] : List UInt8), ()), (([] : List Entry), (v1.2.1, (v1.2.2.1, (v1.2.2.2.1, (v1.2.2.2.2.1, (v1.2.2.2.2.2.2, (v1.2.2.2.2.2.1, ())))))))))))))) fun v9 =>
 some ((v9.1, ()), ((v9.2.2.2.2.2.2.2.1, (v9.2.2.2.2.2.2.2.2.1, (v9.2.2.2.2.2.2.2.2.2.1, (v9.2.2.2.2.2.2.2.2.2.2.1, (v9.2.2.2.2.2.2.2.2.2.2.2.2.1, v9.2.2.2.2.2.2.2.2.2.2.2.1))))), ()))
 else
 none
 else
 some ((v2.1, ()), (v1.2, ()))
 else
 none
 else
 none
theorem wp (x0 : Cur) (hp : pre x0 = true) : Wp (raw x0) (fun r => dP noteP2 (r.1.1, r.2.1)) := by
 unfold raw
 have hp : curB x0 = true := hp
 have p1 : ∀ {c : Cur} {n : Int}, curB c = true -> spec_l1Below.pre c n = true := fun h => h
 refine W_if (show spec_l9DrawRight.pre x0 = true from hp) (W_fact (spec_l9DrawRight_sp hp) fun a ha => W_if (p1 ha.1) (W_fact (spec_l1Below_sp ha.1) fun b hb => ?_))
 have l1 : a.2.2.2.2.2.1.length <= 10 := ha.2.1
 have l2 : a.2.2.2.2.2.2.1.length <= 30000 := ha.2.2
 have pk : ∀ {l : List Int}, 0 < l.length -> spec_l1PickInt.pre b.1 l = true := fun h => pick_pre hb.1 h
 refine W_ite (fun _ => ?_) fun _ => W_ite (fun _ => ?_) fun _ => W_ite (fun _ => ?_) fun _ => W_ite (fun _ => ?_) fun _ => W_ite (fun _ => ?_) fun _ => W_some ⟨hb.1, by show a.2.2.2.2.2.1.length <= 100; omega, l2⟩
 . exact W_if (p1 hb.1) (W_fact (spec_l1Below_sp hb.1) fun c hc => W_some ⟨hc.1, by show a.2.2.2.2.2.1.length <= 100; omega, l2⟩)
 . exact W_if (pk (by simp)) (W_fact (spec_l1PickInt_sp (pk (by simp))) fun c hc => W_some ⟨hc.1, by show a.2.2.2.2.2.1.length <= 100; omega, l2⟩)
 . exact W_if (pk (by simp)) (W_fact (spec_l1PickInt_sp (pk (by simp))) fun c hc => W_some ⟨hc.1, by show a.2.2.2.2.2.1.length <= 100; omega, l2⟩)
 . refine W_if (p1 hb.1) (W_fact (spec_l1Below_sp hb.1) fun c hc => W_if (show spec_l2DrawRight.pre c.1 = true from hc.1) (W_fact (spec_l2DrawRight_sp hc.1) fun d hd => W_if (show spec_l2Spoil.pre d.1 _ = true from hd.1) (W_fact (spec_l2Spoil_sp hd.1) fun e he => W_if (by simp only [Za, Zg, Zh, lim]; omega) (W_some ⟨he.1, ?_, l2⟩))))
   show (List.append a.2.2.2.2.2.1 _).length <= 100
   rw [List.append_eq, Zf, Zg, Zh]; omega
 . have hq : pre12 (b.1, ((0 : Int), ((0 : Int), ((0 : Int), ((0 : Int), ((([] : List UInt8), ()), (([] : List Entry), (a.2.1, (a.2.2.1, (a.2.2.2.1, (a.2.2.2.2.1, (a.2.2.2.2.2.2, (a.2.2.2.2.2.1, ()))))))))))))) = true := by
    simp only [pre12, Zb, Za]; exact ⟨hb.1, by omega, l2⟩
   refine W_if hq (W_fact (runF_q wp12 hq : Q12 _ (fn12 _)) ?_)
   rintro ⟨y1, y2, y3, y4, y5, y6, y7, y8, y9, y10, y11, y12, y13, ⟨⟩⟩ ⟨o1, o2, o3⟩
   exact W_some ⟨o1, by show y13.length <= 100; omega, o3⟩
noncomputable def val (x0 : Cur) : Cur × Note := ((got (raw x0)).1.1, (got (raw x0)).2.1)
theorem eq (x0 : Cur) (_ : wf x0) (hp : pre x0 = true) : raw x0 = some (((val x0).1, ()), ((val x0).2, ())) := (got_eq (wp x0 hp)).1
end spec_l9Draw
noncomputable def spec_l9Draw (x0 : Cur) : Cur × Note := spec_l9Draw.val x0
namespace spec_DrawNoteBytes
def pre (x : List Int) : Bool := small x
abbrev wf (x0 : (List Int)) : Prop := wfA [(.val zk20 .f)] (x0, ())
noncomputable def raw (x0 : (List Int)) : Option (Unit × (Note × Unit)) :=
 if (spec_l1New.pre x0) = true then
 letB (spec_l1New x0) fun v1 =>
 if (spec_l9Draw.pre v1) = true then
 letB (spec_l9Draw v1) fun v2 =>
 some ((), (v2.2, ()))
 else
 none
 else
 none
theorem wp (x0 : List Int) (hp : pre x0 = true) : Wp (raw x0) (fun _ => True) := by
 unfold raw
 exact W_if (show spec_l1New.pre x0 = true from hp) (W_fact (P := fun c : Cur => curB c = true) (spec_l1New_sp hp) fun a ha => W_if (show spec_l9Draw.pre a = true from ha) (W_let (W_some trivial)))
noncomputable def val (x0 : List Int) : Note := (got (raw x0)).2.1
theorem eq (x0 : List Int) (_ : wf x0) (hp : pre x0 = true) : raw x0 = some ((), (val x0, ())) := (got_eq (wp x0 hp)).1
end spec_DrawNoteBytes
noncomputable def spec_DrawNoteBytes (x0 : List Int) : Note := spec_DrawNoteBytes.val x0
namespace spec_DrawNoteOk
def pre (x : List Int) : Bool := small x
abbrev wf (x0 : (List Int)) : Prop := wfA [(.val zk20 .f)] (x0, ())
noncomputable def raw (x0 : (List Int)) : Option (Unit × (Note × Unit)) :=
 if (spec_l1New.pre x0) = true then
 letB (spec_l1New x0) fun v1 =>
 if (spec_l9Draw.pre v1) = true then
 letB (spec_l9Draw v1) fun v2 =>
 some ((), (v2.2, ()))
 else
 none
 else
 none
theorem wp (x0 : List Int) (hp : pre x0 = true) : Wp (raw x0) (fun _ => True) := by
 unfold raw
 exact W_if (show spec_l1New.pre x0 = true from hp) (W_fact (P := fun c : Cur => curB c = true) (spec_l1New_sp hp) fun a ha => W_if (show spec_l9Draw.pre a = true from ha) (W_let (W_some trivial)))
noncomputable def val (x0 : List Int) : Note := (got (raw x0)).2.1
theorem eq (x0 : List Int) (_ : wf x0) (hp : pre x0 = true) : raw x0 = some ((), (val x0, ())) := (got_eq (wp x0 hp)).1
end spec_DrawNoteOk
noncomputable def spec_DrawNoteOk (x0 : List Int) : Note := spec_DrawNoteOk.val x0
namespace spec_l7DrawNums
abbrev S3 : Type := (Int × (zt11 × zt12))
abbrev O3 : Type := (zt11 × zt12)
def pre3 : S3 -> Bool := fun (x1, x2, x3, _) => curB x2 && (decide (0 <= x1) && (decide (x1 <= 3) && decide ((x3.length : Int) <= 5 * x1)))
def mu3 : S3 -> Nat := fun (x1, _) => (3 - x1).toNat
def Q3 (_ : S3) (o : O3) : Prop := curB o.1 = true /\ o.2.1.length <= 100
noncomputable def raw3 (x1 : Int) (x2 : zt11) (x3 : (List Int)) : Option ((Int × (zt11 × zt12)) ⊕ (zt11 × zt12)) :=
 if (spec_l1Below.pre x2 (4 : Int)) = true then
 letB (spec_l1Below x2 (4 : Int)) fun v1 =>
 if (decide (x1 < v1.2)) = true then
 if (spec_l1PickInt.pre v1.1 ((0 : Int) :: ((1 : Int) :: ((127 : Int) :: ((128 : Int) :: ((300 : Int) :: ((2147483647 : Int) :: ([] : List Int)))))))) = true then
 letB (spec_l1PickInt v1.1 ((0 : Int) :: ((1 : Int) :: ((127 : Int) :: ((128 : Int) :: ((300 : Int) :: ((2147483647 : Int) :: ([] : List Int)))))))) fun v2 =>
 letB (PutNum v2.2) fun v3 =>
 if (decide (length x3 + length v3 <= lim)) = true then
 some (.inl ((wrap .i64 (x1 + (1 : Int))), (v2.1, ((List.append x3 v3), ()))))
 else
 none
 else
 none
 else
 some (.inr (v1.1, (x3, ())))
 else
 none
theorem wp3 : ∀ s, pre3 s = true -> Wp ((fun (x : S3) => raw3 x.1 x.2.1 x.2.2.1) s) (Step pre3 mu3 Q3 s) := by
 rintro ⟨x1, x2, x3, ⟨⟩⟩ hp
 simp only [pre3, Zb, Za] at hp
 obtain ⟨h1, h2, h3, h4⟩ := hp
 show Wp (raw3 x1 x2 x3) _
 unfold raw3
 refine W_if (show spec_l1Below.pre x2 _ = true from h1) (W_fact (spec_l1Below_sp h1) fun a ha => W_ite (fun h => ?_) fun _ => W_some ⟨ha.1, by show x3.length <= 100; omega⟩)
 rw [Za] at h
 have a2 := ha.2.2 (by decide)
 rw [w64 (n := x1 + 1) (by omega) (by omega)]
 refine W_if (pick_pre ha.1 (by simp)) (W_fact (spec_l1PickInt_sp (pick_pre ha.1 (by simp))) fun b hb => W_let ?_)
 have hl := PutNum_len b.2
 refine W_if (by simp only [Za, lim]; omega) (W_some ⟨?_, by simp only [mu3]; omega, fun o ho => ho⟩)
 simp only [pre3, Zb, Za, List.append_eq, Zf]
 exact ⟨hb.1, by omega, by omega, by omega⟩
noncomputable def fn3 : S3 -> O3 := runF (fun (x : S3) => raw3 x.1 x.2.1 x.2.2.1) mu3
theorem ok3 (x1 : Int) (x2 : Cur) (x3 : List Int) (hp : pre3 (x1, (x2, (x3, ()))) = true) : Rounds pre3 mu3 fn3 (x1, (x2, (x3, ()))) (raw3 x1 x2 x3) := runF_ok wp3 hp
def pre (c : Cur) : Bool := curB c
abbrev wf (x0 : zt11) : Prop := wfA [(.ref zk34 .f)] (x0, ())
noncomputable def raw (x0 : zt11) : Option (zt38 × zt12) :=
 if (spec_l7DrawNums.pre3 ((0 : Int), (x0, (([] : List Int), ())))) = true then
 letB (spec_l7DrawNums.fn3 ((0 : Int), (x0, (([] : List Int), ())))) fun v1 =>
 if (spec_l1Once.pre v1.1 (3 : Int)) = true then
 letB (spec_l1Once v1.1 (3 : Int)) fun v2 =>
 if v2.2 = true then
 if (spec_l1PickInt.pre v2.1 ((0 : Int) :: ((128 : Int) :: ((255 : Int) :: ([] : List Int))))) = true then
 letB (spec_l1PickInt v2.1 ((0 : Int) :: ((128 : Int) :: ((255 : Int) :: ([] : List Int))))) fun v3 =>
 if (spec_l1Below.pre v3.1 (3 : Int)) = true then
 letB (spec_l1Below v3.1 (3 : Int)) fun v4 =>
 if (decide (length v1.2.1 + length ((wrap .u8 v3.2) :: ((wrap .u8 v4.2) :: ([] : List Int))) <= lim)) = true then
 some ((v4.1, ()), ((List.append v1.2.1 ((wrap .u8 v3.2) :: ((wrap .u8 v4.2) :: ([] : List Int)))), ()))
 else
 none
 else
 none
 else
 none
 else
 some ((v2.1, ()), v1.2)
 else
 none
 else
 none
theorem wp (x0 : Cur) (hp : pre x0 = true) : Wp (raw x0) (fun _ => True) := by
 unfold raw
 have hp : curB x0 = true := hp
 have hq : pre3 ((0 : Int), (x0, (([] : List Int), ()))) = true := by
  simp only [pre3, Zb, Za, Zh]; exact ⟨hp, by omega, by omega, by omega⟩
 refine W_if hq (W_fact (runF_q wp3 hq : Q3 _ (fn3 _)) fun a ha => W_if (show spec_l1Once.pre a.1 _ = true from ha.1) (W_fact (spec_l1Once_sp ha.1) fun b hb => W_ite (fun _ => ?_) fun _ => W_some trivial))
 exact W_if (pick_pre hb.1 (by simp)) (W_fact (spec_l1PickInt_sp (pick_pre hb.1 (by simp))) fun c hc => W_if (show spec_l1Below.pre c.1 _ = true from hc.1) (W_let (W_if (by have := ha.2; simp only [Za, Zg, Zh, lim]; omega) (W_some trivial))))
noncomputable def val (x0 : Cur) : Cur × List Int := ((got (raw x0)).1.1, (got (raw x0)).2.1)
theorem eq (x0 : Cur) (_ : wf x0) (hp : pre x0 = true) : raw x0 = some (((val x0).1, ()), ((val x0).2, ())) := (got_eq (wp x0 hp)).1
end spec_l7DrawNums
noncomputable def spec_l7DrawNums (x0 : Cur) : Cur × List Int := spec_l7DrawNums.val x0
namespace spec_DrawSumOf
def pre (x : List Int) : Bool := small x
abbrev wf (x0 : (List Int)) : Prop := wfA [(.val zk20 .f)] (x0, ())
noncomputable def raw (x0 : (List Int)) : Option (Unit × zt12) :=
 if (spec_l1New.pre x0) = true then
 letB (spec_l1New x0) fun v1 =>
 if (spec_l7DrawNums.pre v1) = true then
 letB (spec_l7DrawNums v1) fun v2 =>
 some ((), (v2.2, ()))
 else
 none
 else
 none
theorem wp (x0 : List Int) (hp : pre x0 = true) : Wp (raw x0) (fun _ => True) := by
 unfold raw
 exact W_if (show spec_l1New.pre x0 = true from hp) (W_fact (P := fun c : Cur => curB c = true) (spec_l1New_sp hp) fun a ha => W_if (show spec_l7DrawNums.pre a = true from ha) (W_let (W_some trivial)))
noncomputable def val (x0 : List Int) : List Int := (got (raw x0)).2.1
theorem eq (x0 : List Int) (_ : wf x0) (hp : pre x0 = true) : raw x0 = some ((), (val x0, ())) := (got_eq (wp x0 hp)).1
end spec_DrawSumOf
noncomputable def spec_DrawSumOf (x0 : List Int) : List Int := spec_DrawSumOf.val x0
theorem NoteBytes_pos {r : Note} : decide ((0 : Int) < ((NoteBytes r).length : Int)) = NoteOk r := by
 cases h : NoteOk r
 . have : NoteBytes r = [] := by unfold NoteBytes; rw [if_neg (by rw [h]; decide)]
   rw [this]; rfl
 . have : 4 <= (NoteBytes r).length := by
    rw [note_parts h]
    simp only [Zf, sum4, Zg, Zh]; omega
   exact Zd (by omega)
def laws_FnNotes (_ : List Int) : Bool := true
namespace laws_FnNotes
abbrev S21 : Type := ((List Int) × (Int × (Int × zt12)))
abbrev O21 : Type := ((Bool × Unit) ⊕ Unit)
noncomputable def pre21 : S21 -> Bool := fun (x1, x2, x3, x4, _) => isBytes x1 && (small x1 && (decide (0 <= x3) && (decide (x3 <= 12) && B (∃ r, NoteOk r = true /\ x4 = NoteBytes r /\ x2 = ((PutNum ((spec_l9Body r).length : Int)).length : Int)))))
def fn21 : S21 -> O21 := fun _ => .inr ()
def mu21 : S21 -> Nat := fun (_, _, x3, _) => (12 - x3).toNat
noncomputable def raw21 (x1 : (List Int)) (x2 : Int) (x3 : Int) (x4 : (List Int)) : Option (((List Int) × (Int × (Int × zt12))) ⊕ ((Bool × Unit) ⊕ Unit)) :=
 if (decide (x3 < (12 : Int))) = true then
 if (laws_at.pre x1 x3) = true then
 if (!(decide ((256 : Int) = (0 : Int)))) = true then
 if (decide ((0 : Int) <= (0 : Int))) = true then
 letB (laws_at x1 x3) fun v1 =>
 if (decide ((0 : Int) <= (wrap .i64 (Int.tdiv (wrap .i64 (v1 * ((length x4 : Nat) : Int))) (256 : Int))))) = true then
 if (decide ((wrap .i64 (Int.tdiv (wrap .i64 (v1 * ((length x4 : Nat) : Int))) (256 : Int))) <= ((length x4 : Nat) : Int))) = true then
 if (impl_NoteOf.pre (dropTake (Int.toNat (0 : Int)) (Int.toNat (wrap .i64 (Int.tdiv (wrap .i64 (v1 * ((length x4 : Nat) : Int))) (256 : Int)))) x4) (0 : Int)) = true then
 letB (impl_NoteOf (dropTake (Int.toNat (0 : Int)) (Int.toNat (wrap .i64 (Int.tdiv (wrap .i64 (v1 * ((length x4 : Nat) : Int))) (256 : Int)))) x4) (0 : Int)) fun v2 =>
 if v2.2.2 = true then
 some (.inr (.inl (false, ())))
 else
 if (decide (length ([] : List Int) + length x4 <= lim)) = true then
 if (laws_at.pre x1 (wrap .i64 (x3 + (1 : Int)))) = true then
 if (!(decide ((256 : Int) = (0 : Int)))) = true then
 letB (laws_at x1 (wrap .i64 (x3 + (1 : Int)))) fun v3 =>
 if (decide ((0 : Int) <= (wrap .i64 (x2 + (wrap .i64 (Int.tdiv (wrap .i64 (v3 * (wrap .i64 (((length x4 : Nat) : Int) - x2)))) (256 : Int))))))) = true then
 if (decide ((wrap .i64 (x2 + (wrap .i64 (Int.tdiv (wrap .i64 (v3 * (wrap .i64 (((length x4 : Nat) : Int) - x2)))) (256 : Int))))) < ((length (List.append ([] : List Int) x4) : Nat) : Int))) = true then
 if (laws_at.pre x1 (wrap .i64 (x3 + (2 : Int)))) = true then
 if (!(decide ((8 : Int) = (0 : Int)))) = true then
 letB (laws_at x1 (wrap .i64 (x3 + (2 : Int)))) fun v4 =>
 if (decide ((0 : Int) <= (Int.tmod v4 (8 : Int)))) = true then
 if (decide ((0 : Int) <= (wrap .i64 (x2 + (wrap .i64 (Int.tdiv (wrap .i64 (v3 * (wrap .i64 (((length x4 : Nat) : Int) - x2)))) (256 : Int))))))) = true then
 if (decide ((wrap .i64 (x2 + (wrap .i64 (Int.tdiv (wrap .i64 (v3 * (wrap .i64 (((length x4 : Nat) : Int) - x2)))) (256 : Int))))) < ((length (List.append ([] : List Int) x4) : Nat) : Int))) = true then
 if (impl_NoteOf.pre (List.modify (List.append ([] : List Int) x4) (Int.toNat (wrap .i64 (x2 + (wrap .i64 (Int.tdiv (wrap .i64 (v3 * (wrap .i64 (((length x4 : Nat) : Int) - x2)))) (256 : Int)))))) (fun z => (intBits .xor .u8 (List.getD (List.append ([] : List Int) x4) (Int.toNat (wrap .i64 (x2 + (wrap .i64 (Int.tdiv (wrap .i64 (v3 * (wrap .i64 (((length x4 : Nat) : Int) - x2)))) (256 : Int)))))) (0 : Int)) (wrap .u8 ((1 : Int) * 2 ^ min (Int.toNat (Int.tmod v4 (8 : Int))) (IntKind.bits .u8)))))) (0 : Int)) = true then
 letB (impl_NoteOf (List.modify (List.append ([] : List Int) x4) (Int.toNat (wrap .i64 (x2 + (wrap .i64 (Int.tdiv (wrap .i64 (v3 * (wrap .i64 (((length x4 : Nat) : Int) - x2)))) (256 : Int)))))) (fun z => (intBits .xor .u8 (List.getD (List.append ([] : List Int) x4) (Int.toNat (wrap .i64 (x2 + (wrap .i64 (Int.tdiv (wrap .i64 (v3 * (wrap .i64 (((length x4 : Nat) : Int) - x2)))) (256 : Int)))))) (0 : Int)) (wrap .u8 ((1 : Int) * 2 ^ min (Int.toNat (Int.tmod v4 (8 : Int))) (IntKind.bits .u8)))))) (0 : Int)) fun v5 =>
 if v5.2.2 = true then
 some (.inr (.inl (false, ())))
 else
 some (.inl (x1, (x2, ((wrap .i64 (x3 + (1 : Int))), (x4, ())))))
 else
 none
 else
 none
 else
 none
 else
 none
 else
 none
 else
 none
 else
 none
 else
 none
 else
 none
 else
 none
 else
 none
 else
 none
 else
 none
 else
 none
 else
 none
 else
 none
 else
 none
 else
 some (.inr (.inr ()))
abbrev wf (x0 : (List Int)) : Prop := wfA [(.val zk20 .f)] (x0, ())
noncomputable def raw (x0 : (List Int)) : Option zt30 :=
 letB (laws_big x0) fun v1 =>
 if v1 = true then
  some ((), (true, ()))
 else
  if (spec_DrawNoteBytes.pre x0) = true then
   if (spec_DrawNoteOk.pre x0) = true then
    if (spec_DrawSumOf.pre x0) = true then
     letB (spec_DrawNoteBytes x0) fun v2 =>
     letB (NoteBytes v2) fun v3 =>
     letB (NoteBytes v2) fun v4 =>
     if (!((strOf v3) == (strOf v4))) = true then
      some ((), (false, ()))
     else
      letB (NoteOk v2) fun v5 =>
      if (!((decide ((0 : Int) < ((length v3 : Nat) : Int))) == v5)) = true then
       some ((), (false, ()))
      else
       letB (spec_DrawNoteOk x0) fun v6 =>
       letB (NoteOk v6) fun v7 =>
       letB (NoteOk v6) fun v8 =>
       if (!(v7 == v8)) = true then
        some ((), (false, ()))
       else
        letB (spec_DrawSumOf x0) fun v9 =>
        letB (SumOf v9) fun v10 =>
        letB (SumOf v9) fun v11 =>
        if (!(decide (v10 = v11))) = true then
         some ((), (false, ()))
        else
         if (spec_DrawNoteOf.pre x0) = true then
          letB (spec_DrawNoteOf x0) fun v12 =>
          if (impl_NoteOf.pre v12.1 v12.2) = true then
           if (spec_NoteOf.pre v12.1 v12.2) = true then
            letB (impl_NoteOf v12.1 v12.2) fun v13 =>
            letB (spec_NoteOf v12.1 v12.2) fun v14 =>
            if (!(v13.2.2 == v14.2.2)) = true then
             some ((), (false, ()))
            else
             if (!(decide (v13.2.1 = v14.2.1))) = true then
              some ((), (false, ()))
             else
              if v13.2.2 = true then
               if (decide ((0 : Int) <= v12.2)) = true then
                if (decide (v12.2 <= v13.2.1)) = true then
                 if (decide (v13.2.1 <= ((length v12.1 : Nat) : Int))) = true then
                  letB (NoteBytes v13.1) fun v15 =>
                  if (!((strOf v15) == (strOf (dropTake (Int.toNat v12.2) (Int.toNat v13.2.1) v12.1)))) = true then
                   some ((), (false, ()))
                  else
                   if (decide (((length v3 : Nat) : Int) = (0 : Int))) = true then
                    some ((), (true, ()))
                   else
                    if (decide (length ([] : List Int) + length v3 <= lim)) = true then
                     if (laws_at.pre x0 (1 : Int)) = true then
                      letB (laws_at x0 (1 : Int)) fun v16 =>
                      if (decide (length (List.append ([] : List Int) v3) + length ((wrap .u8 v16) :: ([] : List Int)) <= lim)) = true then
                       if (impl_NoteOf.pre (List.append (List.append ([] : List Int) v3) ((wrap .u8 v16) :: ([] : List Int))) (0 : Int)) = true then
                        letB (impl_NoteOf (List.append (List.append ([] : List Int) v3) ((wrap .u8 v16) :: ([] : List Int))) (0 : Int)) fun v17 =>
                        if (!v17.2.2) = true then
                         some ((), (false, ()))
                        else
                         if (!(decide (v17.2.1 = ((length v3 : Nat) : Int)))) = true then
                          some ((), (false, ()))
                         else
                          letB (impl_GetNum v3 (0 : Int)) fun v18 =>
                          if (laws_FnNotes.pre21 (x0, (v18.2.1, ((0 : Int), (v3, ()))))) = true then
                           letB (laws_FnNotes.fn21 (x0, (v18.2.1, ((0 : Int), (v3, ()))))) fun v19 =>
                           match v19 with
                           | .inl y =>
                            some ((), y)
                           | .inr y =>
                            some ((), (true, ()))
                          else
                           none
                       else
                        none
                      else
                       none
                     else
                      none
                    else
                     none
                 else
                  none
                else
                 none
               else
                none
              else
               if (decide (((length v3 : Nat) : Int) = (0 : Int))) = true then
                some ((), (true, ()))
               else
                if (decide (length ([] : List Int) + length v3 <= lim)) = true then
                 if (laws_at.pre x0 (1 : Int)) = true then
                  letB (laws_at x0 (1 : Int)) fun v20 =>
                  if (decide (length (List.append ([] : List Int) v3) + length ((wrap .u8 v20) :: ([] : List Int)) <= lim)) = true then
                   if (impl_NoteOf.pre (List.append (List.append ([] : List Int) v3) ((wrap .u8 v20) :: ([] : List Int))) (0 : Int)) = true then
                    letB (impl_NoteOf (List.append (List.append ([] : List Int) v3) ((wrap .u8 v20) :: ([] : List Int))) (0 : Int)) fun v21 =>
                    if (!v21.2.2) = true then
                     some ((), (false, ()))
                    else
                     if (!(decide (v21.2.1 = ((length v3 : Nat) : Int)))) = true then
                      some ((), (false, ()))
                     else
                      letB (impl_GetNum v3 (0 : Int)) fun v22 =>
                      if (laws_FnNotes.pre21 (x0, (v22.2.1, ((0 : Int), (v3, ()))))) = true then
                       letB (laws_FnNotes.fn21 (x0, (v22.2.1, ((0 : Int), (v3, ()))))) fun v23 =>
                       match v23 with
                       | .inl y =>
                        some ((), y)
                       | .inr y =>
                        some ((), (true, ()))
                      else
                       none
                   else
                    none
                  else
                   none
                 else
                  none
                else
                 none
           else
            none
          else
           none
         else
          none
    else
     none
   else
    none
  else
   none
theorem frac {v n : Int} (h0 : 0 <= v) (h1 : v <= 255) (h2 : 0 < n) (h3 : n <= 1000000) : wrap .i64 (Int.tdiv (wrap .i64 (v * n)) 256) = v * n / 256 /\ 0 <= v * n / 256 /\ v * n / 256 < n := by
 have m1 : 0 <= v * n := Int.mul_nonneg h0 (by omega)
 have m2 : v * n <= 255 * n := Int.mul_le_mul_of_nonneg_right h1 (by omega)
 rw [w64 (n := v * n) (by omega) (by omega), Int.tdiv_eq_ediv_of_nonneg m1, w64 (by omega) (by omega)]
 omega
theorem ok21 (x1 : List Int) (x2 x3 : Int) (x4 : List Int) (hp : pre21 (x1, (x2, (x3, (x4, ())))) = true) : Rounds pre21 mu21 fn21 (x1, (x2, (x3, (x4, ())))) (raw21 x1 x2 x3 x4) := by
 simp only [pre21, Zb, Za, B_iff] at hp
 obtain ⟨hb, hs, h0, h1, r, hr, rfl, rfl⟩ := hp
 have hs' := small_iff.1 hs
 have hl := NoteBytes_len r
 have hpl := PutNum_len ((spec_l9Body r).length : Int)
 have hparts : (NoteBytes r).length = (PutNum ((spec_l9Body r).length : Int)).length + ((spec_l9Body r).length + 4) := by
  rw [note_parts hr]
  simp only [Zf, sum4, Zg, Zh]
 unfold raw21
 by_cases hlt : x3 < 12
 . have a1 := at_range (i := x3) hb hs' h0 (by omega)
   have a2 := at_range (i := x3 + 1) hb hs' (by omega) (by omega)
   have a3 := at_range (i := x3 + 2) hb hs' (by omega) (by omega)
   rw [w64 (n := x3 + 1) (by omega) (by omega), w64 (n := x3 + 2) (by omega) (by omega)]
   refine R_if (Zd hlt) (R_if (show laws_at.pre x1 x3 = true from Zd h0) (R_if (by decide) (R_if (by decide) (R_let ?_))))
   have f1 := frac a1.1 a1.2 (show 0 < ((NoteBytes r).length : Int) by omega) (by omega)
   rw [f1.1]
   generalize laws_at x1 x3 * ((NoteBytes r).length : Int) / 256 = cut at *
   have ht : dropTake (Int.toNat 0) cut.toNat (NoteBytes r) = (NoteBytes r).take cut.toNat := rfl
   rw [ht]
   have c1 : impl_NoteOf ((NoteBytes r).take cut.toNat) 0 = spec_NoteOf ((NoteBytes r).take cut.toNat) 0 := NoteOf_same _ (isBytes_take (NoteBytes_bytes r) _) (by rw [Zr]; omega)
   have c2 := cut_none (c := cut.toNat) hr (by omega)
   refine R_if (Zd f1.2.1) (R_if (Zd (by omega)) (R_if (show impl_NoteOf.pre _ 0 = true from Zd (Int.le_refl _)) (R_let (R_else (by rw [c1]; exact c2) ?_))))
   have f2 := frac a2.1 a2.2 (show 0 < ((NoteBytes r).length : Int) - ((PutNum ((spec_l9Body r).length : Int)).length : Int) by omega) (by omega)
   rw [w64 (n := ((NoteBytes r).length : Int) - ((PutNum ((spec_l9Body r).length : Int)).length : Int)) (by omega) (by omega)]
   refine R_if (by simp only [Za, Zh, lim]; omega) (R_if (show laws_at.pre x1 (x3 + 1) = true from Zd (by omega)) (R_if (by decide) (R_let ?_)))
   rw [f2.1]
   generalize laws_at x1 (x3 + 1) * (((NoteBytes r).length : Int) - ((PutNum ((spec_l9Body r).length : Int)).length : Int)) / 256 = d at *
   rw [w64 (n := ((PutNum ((spec_l9Body r).length : Int)).length : Int) + d) (by omega) (by omega)]
   have e0 : List.append ([] : List Int) (NoteBytes r) = NoteBytes r := rfl
   rw [e0]
   generalize hq : ((PutNum ((spec_l9Body r).length : Int)).length : Int) + d = q at *
   refine R_if (Zd (by omega)) (R_if (Zd (by omega)) (R_if (show laws_at.pre x1 (x3 + 2) = true from Zd (by omega)) (R_if (by decide) (R_let ?_))))
   have k0 := Int.tmod_nonneg 8 a3.1
   have k1 := Int.tmod_lt_of_pos (laws_at x1 (x3 + 2)) (show (0 : Int) < 8 by decide)
   have hqn : q.toNat < (NoteBytes r).length := by omega
   have hby := isBytes_get (NoteBytes_bytes r) hqn
   have hx := xor_ne (x := (NoteBytes r).getD q.toNat 0) (k := Int.tmod (laws_at x1 (x3 + 2)) 8) (by rw [getD_get hqn]; exact hby.1) (by rw [getD_get hqn]; exact hby.2) k0 k1
   rw [modify_const]
   generalize intBits .xor .u8 ((NoteBytes r).getD q.toNat 0) (wrap .u8 (1 * 2 ^ min (Int.tmod (laws_at x1 (x3 + 2)) 8).toNat (IntKind.bits .u8))) = v at *
   have hb2 : isBytes ((NoteBytes r).set q.toNat v) = true := by
    rw [isBytes_mem]
    intro x hx'
    rcases List.mem_or_eq_of_mem_set hx' with hx' | rfl
    . exact isBytes_mem.1 (NoteBytes_bytes r) x hx'
    . exact hx.2
   have c3 : impl_NoteOf ((NoteBytes r).set q.toNat v) 0 = spec_NoteOf ((NoteBytes r).set q.toNat v) 0 := NoteOf_same _ hb2 (by rw [List.length_set]; omega)
   have c4 := flip_none (q := q.toNat) hr (by omega) (by omega) hx.2 hx.1
   refine R_if (Zd k0) (R_if (Zd (by omega)) (R_if (Zd (by omega)) (R_if (show impl_NoteOf.pre _ 0 = true from Zd (Int.le_refl _)) (R_let (R_else (by rw [c3]; exact c4) ⟨?_, by simp only [mu21]; omega, rfl⟩)))))
   simp only [pre21, Zb, Za, B_iff]
   exact ⟨hb, hs, by omega, by omega, r, hr, rfl, rfl⟩
 . exact R_else (by rw [Za]; exact hlt) rfl
theorem eq (x0 : List Int) (hw : wf x0) : raw x0 = some ((), (laws_FnNotes x0, ())) := by
 have hb0 : isBytes x0 = true := isBytes_of hw.1.2
 refine W_eq ?_
 unfold raw
 refine W_let (W_ite (fun _ => W_some rfl) fun hb => ?_)
 have hs := not_big hb
 refine W_if (show spec_DrawNoteBytes.pre x0 = true from hs) (W_if (show spec_DrawNoteOk.pre x0 = true from hs) (W_if (show spec_DrawSumOf.pre x0 = true from hs) (W_let (W_let (W_let (W_else (neq_self _) (W_let ?_)))))))
 generalize spec_DrawNoteBytes x0 = r
 rw [NoteBytes_pos]
 refine W_else (neq_self _) (W_let (W_let (W_let (W_else (neq_self _) (W_let (W_let (W_let (W_else (nde_self _) ?_))))))))
 refine W_if (show spec_DrawNoteOf.pre x0 = true from hs) (W_fact (P := fun v : List Int × Int => bytesP 200000 v.1) (spec_DrawNoteOf_sp hs) fun a ha => ?_)
 have hal : a.1.length <= 200000 := ha.1
 have hsame : impl_NoteOf a.1 a.2 = spec_NoteOf a.1 a.2 := NoteOf_same _ ha.2 (by omega)
 refine W_if (show impl_NoteOf.pre a.1 a.2 = true from Zd (Int.le_refl _)) (W_if (show spec_NoteOf.pre a.1 a.2 = true from rfl) (W_let (W_let ?_)))
 rw [hsame]
 refine W_else (neq_self _) (W_else (nde_self _) ?_)
 have hl := NoteBytes_len r
 have tail : Wp (if decide (((NoteBytes r).length : Int) = 0) = true then some ((), (true, ())) else if decide (([] : List Int).length + (NoteBytes r).length <= lim) = true then if laws_at.pre x0 1 = true then letB (laws_at x0 1) fun v16 => if decide ((List.append ([] : List Int) (NoteBytes r)).length + (wrap .u8 v16 :: ([] : List Int)).length <= lim) = true then if impl_NoteOf.pre (List.append (List.append ([] : List Int) (NoteBytes r)) (wrap .u8 v16 :: ([] : List Int))) 0 = true then letB (impl_NoteOf (List.append (List.append ([] : List Int) (NoteBytes r)) (wrap .u8 v16 :: ([] : List Int))) 0) fun v17 => if (!v17.2.2) = true then some ((), (false, ())) else if (!decide (v17.2.1 = ((NoteBytes r).length : Int))) = true then some ((), (false, ())) else letB (impl_GetNum (NoteBytes r) 0) fun v18 => if pre21 (x0, (v18.2.1, ((0 : Int), (NoteBytes r, ())))) = true then letB (fn21 (x0, (v18.2.1, ((0 : Int), (NoteBytes r, ()))))) fun v19 => (match v19 with | .inl y => some ((), y) | .inr y => some ((), (true, ()))) else none else none else none else none else none) (fun r : Unit × (Bool × Unit) => r.2.1 = true) := by
  refine W_ite (fun _ => W_some rfl) fun h0 => ?_
  rw [Za] at h0
  have hr : NoteOk r = true := by rw [<- NoteBytes_pos]; exact Zd (by omega)
  have hbl := body_len (NoteOk_len hr)
  refine W_if (by simp only [Za, Zh, lim]; omega) (W_if (show laws_at.pre x0 1 = true from Zd (by omega)) (W_let (W_if (by simp only [Za, List.append_eq, List.nil_append, Zg, Zh, lim]; omega) (W_if (show impl_NoteOf.pre _ 0 = true from Zd (Int.le_refl _)) (W_let ?_)))))
  have hmb : isBytes (List.append (List.append ([] : List Int) (NoteBytes r)) ((wrap .u8 (laws_at x0 1)) :: ([] : List Int))) = true := by
   simp only [List.append_eq, isBytes_app, isBytes_cons, NoteBytes_bytes]
   rw [Zd (wrap8_byte (laws_at x0 1)).1, Zd (wrap8_byte (laws_at x0 1)).2]; rfl
  have hsame2 : impl_NoteOf (List.append (List.append ([] : List Int) (NoteBytes r)) ((wrap .u8 (laws_at x0 1)) :: ([] : List Int))) 0 = (r, (0 + ((NoteBytes r).length : Int), true)) := by
   rw [NoteOf_same _ hmb (by simp only [List.append_eq, List.nil_append, Zf, Zg, Zh]; omega)]
   exact noteOf_of (Int.le_refl _) hr rfl
  rw [hsame2, Int.zero_add]
  refine W_else Bool.false_ne_true (W_else (nde_self _) (W_let ?_))
  have hg : impl_GetNum (NoteBytes r) 0 = (((spec_l9Body r).length : Int), (0 + ((PutNum ((spec_l9Body r).length : Int)).length : Int), true)) := by
   rw [impl_GetNum_eq (by omega)]
   exact GetNum_of (Int.le_refl _) ⟨by omega, by omega⟩ (note_parts hr)
  rw [hg, Int.zero_add]
  refine W_if ?_ (W_let (W_some rfl))
  simp only [pre21, Zb, Za, B_iff]
  exact ⟨hb0, hs, by omega, by omega, r, hr, rfl, rfl⟩
 refine W_ite (fun h => ?_) fun _ => tail
 obtain ⟨h1, h2, h3, h4, h5, h6⟩ := noteOf_is ha.2 (by omega) h
 refine W_if (Zd h1) (W_if (Zd h3) (W_if (Zd h4) (W_let (W_else ?_ tail))))
 rw [h5]; exact neq_self _
end laws_FnNotes
end Go.Aw.Pl

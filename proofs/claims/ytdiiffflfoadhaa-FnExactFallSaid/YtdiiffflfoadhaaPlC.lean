/-
  The laws of disks.
-/
import Derived.Test.YtdiiffflfoadhaaPlB
namespace Go.Aw.Pl
open Go Go.Aw

theorem szB_small {xs : List Int} (hl : xs.length ≤ maxLen) {left : Int} (h0 : 0 ≤ left) (h1 : left ≤ 16777216) (h : ¬ laws_szByteS xs left < 0) : small xs = true := by
  rw [small_iff]
  have hM := maxLen_eq
  unfold laws_szByteS at h
  rw [w64 (by omega) (by omega)] at h
  dsimp only at h
  split at h <;> omega

theorem sz_small {d : Disk} (hl : d.1.length ≤ maxLen) (h : ¬ laws_szDisk d 1048576 < 0) : small d.1 = true := szB_small hl (by omega) (by omega) h

theorem eqDisk_self (d : Disk) : laws_eqDisk d d = true := by simp [laws_eqDisk]

theorem mark2 {d : Disk} (h : small d.1 = true) : (laws_markDisk d 1).2 = 1 + (d.1.length : Int) := by
  rw [small_iff] at h
  exact markK_eq _ _ (by omega) (by omega)

theorem held_mark {d : Disk} (h : small d.1 = true) (r : Int × Unit) : laws_heldDisk ((laws_markDisk d 1).1.1, r) 1 = 1 + (d.1.length : Int) := by
  rw [small_iff] at h
  have hk := markK_eq d.1.length 1 (by omega) (by omega)
  simp only [laws_heldDisk, laws_heldByteS, laws_markDisk, markL_len, if_true, hk]
  rw [if_neg (by omega)]

theorem markB2 {xs : List Int} (h : small xs = true) {k : Int} (h0 : 0 ≤ k) (h1 : k ≤ 1099511627776) : (laws_markByteS xs k).2 = k + (xs.length : Int) := by
  rw [small_iff] at h
  exact markK_eq _ _ h0 (by omega)

theorem small_Sync {d : Disk} (h : small d.1 = true) : small (Sync d).1 = true := by
  unfold Sync; split <;> exact h
theorem small_Fall {d : Disk} (h : small d.1 = true) (k : Int) : small (Fall d k).1 = true := by
  unfold Fall; split
  · rw [small_iff] at h ⊢
    simp only [List.length_take]; omega
  · exact h
theorem small_Append {d : Disk} (h : small d.1 = true) (b : List Int) : small (Append d b).1.1 = true := by
  unfold Append; split
  · rename_i hc
    rw [small_iff]
    simp only [List.length_append]; omega
  · exact h

theorem not_neg (n : Nat) : ¬ (1 + (n : Int) < 0) := by omega
theorem not_neg2 (n m : Nat) : ¬ (1 + (n : Int) + (m : Int) < 0) := by omega

def laws_FnExactDiskOk (_ : Disk) : Bool := true
namespace laws_FnExactDiskOk
abbrev wf (x0 : ((List Int) × (Int × Unit))) : Prop := wfA [(.val (.pair (.sl 0 (.int .u8)) (.pair (.int .i64) .unit)) .f)] (x0, ())
def raw (x0 : ((List Int) × (Int × Unit))) : Option (Unit × (Bool × Unit)) :=
 if (decide ((laws_szDisk x0 (1048576 : Int)) < (0 : Int))) = true then
  some ((), (true, ()))
 else
  if (laws_toDisk.pre x0) = true then
   if (laws_toDisk.pre x0) = true then
    if (!((impl_DiskOk ((laws_toDisk x0).1, (laws_toDisk x0).2)) == (spec_DiskOk ((laws_toDisk x0).1, (laws_toDisk x0).2)))) = true then
     some ((), (false, ()))
    else
     if (laws_toDisk.pre x0) = true then
      if (!(laws_eqDisk ((laws_toDisk x0).1, (laws_toDisk x0).2) ((laws_toDisk x0).1, (laws_toDisk x0).2))) = true then
       some ((), (false, ()))
      else
       some ((), (true, ()))
     else
      none
   else
    none
  else
   none
theorem eq (x0 : Disk) (hw : wf x0) : raw x0 = some ((), (laws_FnExactDiskOk x0, ())) := by
  unfold raw
  by_cases h : laws_szDisk x0 1048576 < 0
  · simp [h, laws_FnExactDiskOk]
  · have hs := sz_small hw.1.1.1 h
    have hp : laws_toDisk.pre x0 = true := hs
    simp [h, hp, laws_toDisk, eqDisk_self, laws_FnExactDiskOk]
end laws_FnExactDiskOk

def laws_FnExactSync (_ : Disk) : Bool := true
namespace laws_FnExactSync
abbrev wf (x0 : ((List Int) × (Int × Unit))) : Prop := wfA [(.val (.pair (.sl 0 (.int .u8)) (.pair (.int .i64) .unit)) .f)] (x0, ())
def raw (x0 : ((List Int) × (Int × Unit))) : Option (Unit × (Bool × Unit)) :=
 if (decide ((laws_szDisk x0 (1048576 : Int)) < (0 : Int))) = true then
  some ((), (true, ()))
 else
  if (laws_toDisk.pre x0) = true then
   if (spec_Sync.pre ((laws_toDisk x0).1, (laws_toDisk x0).2)) = true then
    if (laws_toDisk.pre x0) = true then
     if (impl_Sync.pre ((laws_toDisk x0).1, (laws_toDisk x0).2)) = true then
      if (!(laws_eqDisk ((impl_Sync ((laws_toDisk x0).1, (laws_toDisk x0).2)).1, (impl_Sync ((laws_toDisk x0).1, (laws_toDisk x0).2)).2) ((spec_Sync ((laws_toDisk x0).1, (laws_toDisk x0).2)).1, (spec_Sync ((laws_toDisk x0).1, (laws_toDisk x0).2)).2))) = true then
       some ((), (false, ()))
      else
       if (laws_toDisk.pre x0) = true then
        if (!(laws_eqDisk ((laws_toDisk x0).1, (laws_toDisk x0).2) ((laws_toDisk x0).1, (laws_toDisk x0).2))) = true then
         some ((), (false, ()))
        else
         if (decide ((laws_markDisk ((laws_toDisk x0).1, (laws_toDisk x0).2) (1 : Int)).2 < (0 : Int))) = true then
          some ((), (false, ()))
         else
          if (!(laws_eqDisk ((impl_Sync ((laws_toDisk x0).1, (laws_toDisk x0).2)).1, (impl_Sync ((laws_toDisk x0).1, (laws_toDisk x0).2)).2) ((spec_Sync ((laws_toDisk x0).1, (laws_toDisk x0).2)).1, (spec_Sync ((laws_toDisk x0).1, (laws_toDisk x0).2)).2))) = true then
           some ((), (false, ()))
          else
           if (decide ((laws_heldDisk ((laws_markDisk ((impl_Sync ((laws_toDisk x0).1, (laws_toDisk x0).2)).1, (impl_Sync ((laws_toDisk x0).1, (laws_toDisk x0).2)).2) (1 : Int)).1.1, (impl_Sync ((laws_toDisk x0).1, (laws_toDisk x0).2)).2) (1 : Int)) < (0 : Int))) = true then
            some ((), (false, ()))
           else
            if (!(decide ((laws_heldDisk ((laws_markDisk ((impl_Sync ((laws_toDisk x0).1, (laws_toDisk x0).2)).1, (impl_Sync ((laws_toDisk x0).1, (laws_toDisk x0).2)).2) (1 : Int)).1.1, (impl_Sync ((laws_toDisk x0).1, (laws_toDisk x0).2)).2) (1 : Int)) = (laws_markDisk ((impl_Sync ((laws_toDisk x0).1, (laws_toDisk x0).2)).1, (impl_Sync ((laws_toDisk x0).1, (laws_toDisk x0).2)).2) (1 : Int)).2))) = true then
             some ((), (false, ()))
            else
             if (laws_toDisk.pre x0) = true then
              if (impl_Sync.pre ((laws_toDisk x0).1, (laws_toDisk x0).2)) = true then
               if (!(laws_eqDisk ((impl_Sync ((laws_toDisk x0).1, (laws_toDisk x0).2)).1, (impl_Sync ((laws_toDisk x0).1, (laws_toDisk x0).2)).2) ((spec_Sync ((laws_toDisk x0).1, (laws_toDisk x0).2)).1, (spec_Sync ((laws_toDisk x0).1, (laws_toDisk x0).2)).2))) = true then
                some ((), (false, ()))
               else
                if (decide ((laws_heldDisk ((laws_markDisk ((impl_Sync ((laws_toDisk x0).1, (laws_toDisk x0).2)).1, (impl_Sync ((laws_toDisk x0).1, (laws_toDisk x0).2)).2) (1 : Int)).1.1, (impl_Sync ((laws_toDisk x0).1, (laws_toDisk x0).2)).2) (1 : Int)) < (0 : Int))) = true then
                 some ((), (false, ()))
                else
                 if (!(decide ((laws_heldDisk ((laws_markDisk ((impl_Sync ((laws_toDisk x0).1, (laws_toDisk x0).2)).1, (impl_Sync ((laws_toDisk x0).1, (laws_toDisk x0).2)).2) (1 : Int)).1.1, (impl_Sync ((laws_toDisk x0).1, (laws_toDisk x0).2)).2) (1 : Int)) = (laws_markDisk ((impl_Sync ((laws_toDisk x0).1, (laws_toDisk x0).2)).1, (impl_Sync ((laws_toDisk x0).1, (laws_toDisk x0).2)).2) (1 : Int)).2))) = true then
                  some ((), (false, ()))
                 else
                  some ((), (true, ()))
              else
               none
             else
              none
       else
        none
     else
      none
    else
     none
   else
    none
  else
   none
theorem eq (x0 : Disk) (hw : wf x0) : raw x0 = some ((), (laws_FnExactSync x0, ())) := by
  unfold raw
  by_cases h : laws_szDisk x0 1048576 < 0
  · simp [h, laws_FnExactSync]
  · have hs := sz_small hw.1.1.1 h
    have hp : laws_toDisk.pre x0 = true := hs
    have hp1 : impl_Sync.pre x0 = true := hs
    have hp2 : spec_Sync.pre x0 = true := hs
    have hs' := small_Sync hs
    simp only [laws_toDisk, peta]
    simp [h, hp, hp1, hp2, eqDisk_self, mark2 hs, mark2 hs', held_mark hs', not_neg, laws_FnExactSync]
end laws_FnExactSync

def laws_FnExactFall (_ : Disk) (_ : Int) : Bool := true
namespace laws_FnExactFall
abbrev wf (x0 : ((List Int) × (Int × Unit))) (x1 : Int) : Prop := wfA [(.val (.pair (.sl 0 (.int .u8)) (.pair (.int .i64) .unit)) .f), (.val (.int .i64) .f)] (x0, (x1, ()))
def raw (x0 : ((List Int) × (Int × Unit))) (x1 : Int) : Option (Unit × (Bool × Unit)) :=
 if (decide ((laws_szDisk x0 (1048576 : Int)) < (0 : Int))) = true then
  some ((), (true, ()))
 else
  if (laws_toDisk.pre x0) = true then
   if (spec_Fall.pre ((laws_toDisk x0).1, (laws_toDisk x0).2) x1) = true then
    if (laws_toDisk.pre x0) = true then
     if (impl_Fall.pre ((laws_toDisk x0).1, (laws_toDisk x0).2) x1) = true then
      if (!(laws_eqDisk ((impl_Fall ((laws_toDisk x0).1, (laws_toDisk x0).2) x1).1, (impl_Fall ((laws_toDisk x0).1, (laws_toDisk x0).2) x1).2) ((spec_Fall ((laws_toDisk x0).1, (laws_toDisk x0).2) x1).1, (spec_Fall ((laws_toDisk x0).1, (laws_toDisk x0).2) x1).2))) = true then
       some ((), (false, ()))
      else
       if (laws_toDisk.pre x0) = true then
        if (!(laws_eqDisk ((laws_toDisk x0).1, (laws_toDisk x0).2) ((laws_toDisk x0).1, (laws_toDisk x0).2))) = true then
         some ((), (false, ()))
        else
         if (decide ((laws_markDisk ((laws_toDisk x0).1, (laws_toDisk x0).2) (1 : Int)).2 < (0 : Int))) = true then
          some ((), (false, ()))
         else
          if (!(laws_eqDisk ((impl_Fall ((laws_toDisk x0).1, (laws_toDisk x0).2) x1).1, (impl_Fall ((laws_toDisk x0).1, (laws_toDisk x0).2) x1).2) ((spec_Fall ((laws_toDisk x0).1, (laws_toDisk x0).2) x1).1, (spec_Fall ((laws_toDisk x0).1, (laws_toDisk x0).2) x1).2))) = true then
           some ((), (false, ()))
          else
           if (decide ((laws_heldDisk ((laws_markDisk ((impl_Fall ((laws_toDisk x0).1, (laws_toDisk x0).2) x1).1, (impl_Fall ((laws_toDisk x0).1, (laws_toDisk x0).2) x1).2) (1 : Int)).1.1, (impl_Fall ((laws_toDisk x0).1, (laws_toDisk x0).2) x1).2) (1 : Int)) < (0 : Int))) = true then
            some ((), (false, ()))
           else
            if (!(decide ((laws_heldDisk ((laws_markDisk ((impl_Fall ((laws_toDisk x0).1, (laws_toDisk x0).2) x1).1, (impl_Fall ((laws_toDisk x0).1, (laws_toDisk x0).2) x1).2) (1 : Int)).1.1, (impl_Fall ((laws_toDisk x0).1, (laws_toDisk x0).2) x1).2) (1 : Int)) = (laws_markDisk ((impl_Fall ((laws_toDisk x0).1, (laws_toDisk x0).2) x1).1, (impl_Fall ((laws_toDisk x0).1, (laws_toDisk x0).2) x1).2) (1 : Int)).2))) = true then
             some ((), (false, ()))
            else
             if (laws_toDisk.pre x0) = true then
              if (impl_Fall.pre ((laws_toDisk x0).1, (laws_toDisk x0).2) x1) = true then
               if (!(laws_eqDisk ((impl_Fall ((laws_toDisk x0).1, (laws_toDisk x0).2) x1).1, (impl_Fall ((laws_toDisk x0).1, (laws_toDisk x0).2) x1).2) ((spec_Fall ((laws_toDisk x0).1, (laws_toDisk x0).2) x1).1, (spec_Fall ((laws_toDisk x0).1, (laws_toDisk x0).2) x1).2))) = true then
                some ((), (false, ()))
               else
                if (decide ((laws_heldDisk ((laws_markDisk ((impl_Fall ((laws_toDisk x0).1, (laws_toDisk x0).2) x1).1, (impl_Fall ((laws_toDisk x0).1, (laws_toDisk x0).2) x1).2) (1 : Int)).1.1, (impl_Fall ((laws_toDisk x0).1, (laws_toDisk x0).2) x1).2) (1 : Int)) < (0 : Int))) = true then
                 some ((), (false, ()))
                else
                 if (!(decide ((laws_heldDisk ((laws_markDisk ((impl_Fall ((laws_toDisk x0).1, (laws_toDisk x0).2) x1).1, (impl_Fall ((laws_toDisk x0).1, (laws_toDisk x0).2) x1).2) (1 : Int)).1.1, (impl_Fall ((laws_toDisk x0).1, (laws_toDisk x0).2) x1).2) (1 : Int)) = (laws_markDisk ((impl_Fall ((laws_toDisk x0).1, (laws_toDisk x0).2) x1).1, (impl_Fall ((laws_toDisk x0).1, (laws_toDisk x0).2) x1).2) (1 : Int)).2))) = true then
                  some ((), (false, ()))
                 else
                  some ((), (true, ()))
              else
               none
             else
              none
       else
        none
     else
      none
    else
     none
   else
    none
  else
   none
theorem eq (x0 : Disk) (x1 : Int) (hw : wf x0 x1) : raw x0 x1 = some ((), (laws_FnExactFall x0 x1, ())) := by
  unfold raw
  by_cases h : laws_szDisk x0 1048576 < 0
  · simp [h, laws_FnExactFall]
  · have hs := sz_small hw.1.1.1 h
    have hp : laws_toDisk.pre x0 = true := hs
    have hp1 : impl_Fall.pre x0 x1 = true := hs
    have hp2 : spec_Fall.pre x0 x1 = true := hs
    have hs' := small_Fall hs x1
    simp only [laws_toDisk, peta]
    simp [h, hp, hp1, hp2, eqDisk_self, mark2 hs, mark2 hs', held_mark hs', not_neg, laws_FnExactFall]
end laws_FnExactFall

def laws_FnExactAppend (_ : Disk) (_ : List Int) : Bool := true
namespace laws_FnExactAppend
abbrev wf (x0 : ((List Int) × (Int × Unit))) (x1 : (List Int)) : Prop := wfA [(.val (.pair (.sl 0 (.int .u8)) (.pair (.int .i64) .unit)) .f), (.val (.sl 0 (.int .u8)) .f)] (x0, (x1, ()))
def raw (x0 : ((List Int) × (Int × Unit))) (x1 : (List Int)) : Option (Unit × (Bool × Unit)) :=
 if (decide ((1048576 : Int) < ((List.length x1 : Nat) : Int))) = true then
  some ((), (true, ()))
 else
  if (decide ((laws_szDisk x0 (1048576 : Int)) < (0 : Int))) = true then
   some ((), (true, ()))
  else
   if (laws_toDisk.pre x0) = true then
    if (laws_toByteS.pre x1) = true then
     if (spec_Append.pre ((laws_toDisk x0).1, (laws_toDisk x0).2) (laws_toByteS x1)) = true then
      if (laws_toDisk.pre x0) = true then
       if (laws_toByteS.pre x1) = true then
        if (impl_Append.pre ((laws_toDisk x0).1, (laws_toDisk x0).2) (laws_toByteS x1)) = true then
         if (!(laws_eqDisk ((impl_Append ((laws_toDisk x0).1, (laws_toDisk x0).2) (laws_toByteS x1)).1.1, (impl_Append ((laws_toDisk x0).1, (laws_toDisk x0).2) (laws_toByteS x1)).1.2) ((spec_Append ((laws_toDisk x0).1, (laws_toDisk x0).2) (laws_toByteS x1)).1.1, (spec_Append ((laws_toDisk x0).1, (laws_toDisk x0).2) (laws_toByteS x1)).1.2))) = true then
          some ((), (false, ()))
         else
          if (!((impl_Append ((laws_toDisk x0).1, (laws_toDisk x0).2) (laws_toByteS x1)).2 == (spec_Append ((laws_toDisk x0).1, (laws_toDisk x0).2) (laws_toByteS x1)).2)) = true then
           some ((), (false, ()))
          else
           if (laws_toDisk.pre x0) = true then
            if (!(laws_eqDisk ((laws_toDisk x0).1, (laws_toDisk x0).2) ((laws_toDisk x0).1, (laws_toDisk x0).2))) = true then
             some ((), (false, ()))
            else
             if (laws_toByteS.pre x1) = true then
              if (!(laws_eqByteS (laws_toByteS x1) (laws_toByteS x1))) = true then
               some ((), (false, ()))
              else
               if (decide ((laws_markByteS (laws_toByteS x1) (laws_markDisk ((laws_toDisk x0).1, (laws_toDisk x0).2) (1 : Int)).2).2 < (0 : Int))) = true then
                some ((), (false, ()))
               else
                if (!(laws_eqDisk ((impl_Append ((laws_toDisk x0).1, (laws_toDisk x0).2) (laws_toByteS x1)).1.1, (impl_Append ((laws_toDisk x0).1, (laws_toDisk x0).2) (laws_toByteS x1)).1.2) ((spec_Append ((laws_toDisk x0).1, (laws_toDisk x0).2) (laws_toByteS x1)).1.1, (spec_Append ((laws_toDisk x0).1, (laws_toDisk x0).2) (laws_toByteS x1)).1.2))) = true then
                 some ((), (false, ()))
                else
                 if (!((impl_Append ((laws_toDisk x0).1, (laws_toDisk x0).2) (laws_toByteS x1)).2 == (spec_Append ((laws_toDisk x0).1, (laws_toDisk x0).2) (laws_toByteS x1)).2)) = true then
                  some ((), (false, ()))
                 else
                  if (decide ((laws_heldDisk ((laws_markDisk ((impl_Append ((laws_toDisk x0).1, (laws_toDisk x0).2) (laws_toByteS x1)).1.1, (impl_Append ((laws_toDisk x0).1, (laws_toDisk x0).2) (laws_toByteS x1)).1.2) (1 : Int)).1.1, (impl_Append ((laws_toDisk x0).1, (laws_toDisk x0).2) (laws_toByteS x1)).1.2) (1 : Int)) < (0 : Int))) = true then
                   some ((), (false, ()))
                  else
                   if (!(decide ((laws_heldDisk ((laws_markDisk ((impl_Append ((laws_toDisk x0).1, (laws_toDisk x0).2) (laws_toByteS x1)).1.1, (impl_Append ((laws_toDisk x0).1, (laws_toDisk x0).2) (laws_toByteS x1)).1.2) (1 : Int)).1.1, (impl_Append ((laws_toDisk x0).1, (laws_toDisk x0).2) (laws_toByteS x1)).1.2) (1 : Int)) = (laws_markDisk ((impl_Append ((laws_toDisk x0).1, (laws_toDisk x0).2) (laws_toByteS x1)).1.1, (impl_Append ((laws_toDisk x0).1, (laws_toDisk x0).2) (laws_toByteS x1)).1.2) (1 : Int)).2))) = true then
                    some ((), (false, ()))
                   else
                    if (laws_toDisk.pre x0) = true then
                     if (laws_toByteS.pre x1) = true then
                      if (impl_Append.pre ((laws_toDisk x0).1, (laws_toDisk x0).2) (laws_toByteS x1)) = true then
                       if (!(laws_eqDisk ((impl_Append ((laws_toDisk x0).1, (laws_toDisk x0).2) (laws_toByteS x1)).1.1, (impl_Append ((laws_toDisk x0).1, (laws_toDisk x0).2) (laws_toByteS x1)).1.2) ((spec_Append ((laws_toDisk x0).1, (laws_toDisk x0).2) (laws_toByteS x1)).1.1, (spec_Append ((laws_toDisk x0).1, (laws_toDisk x0).2) (laws_toByteS x1)).1.2))) = true then
                        some ((), (false, ()))
                       else
                        if (!((impl_Append ((laws_toDisk x0).1, (laws_toDisk x0).2) (laws_toByteS x1)).2 == (spec_Append ((laws_toDisk x0).1, (laws_toDisk x0).2) (laws_toByteS x1)).2)) = true then
                         some ((), (false, ()))
                        else
                         if (decide ((laws_heldDisk ((laws_markDisk ((impl_Append ((laws_toDisk x0).1, (laws_toDisk x0).2) (laws_toByteS x1)).1.1, (impl_Append ((laws_toDisk x0).1, (laws_toDisk x0).2) (laws_toByteS x1)).1.2) (1 : Int)).1.1, (impl_Append ((laws_toDisk x0).1, (laws_toDisk x0).2) (laws_toByteS x1)).1.2) (1 : Int)) < (0 : Int))) = true then
                          some ((), (false, ()))
                         else
                          if (!(decide ((laws_heldDisk ((laws_markDisk ((impl_Append ((laws_toDisk x0).1, (laws_toDisk x0).2) (laws_toByteS x1)).1.1, (impl_Append ((laws_toDisk x0).1, (laws_toDisk x0).2) (laws_toByteS x1)).1.2) (1 : Int)).1.1, (impl_Append ((laws_toDisk x0).1, (laws_toDisk x0).2) (laws_toByteS x1)).1.2) (1 : Int)) = (laws_markDisk ((impl_Append ((laws_toDisk x0).1, (laws_toDisk x0).2) (laws_toByteS x1)).1.1, (impl_Append ((laws_toDisk x0).1, (laws_toDisk x0).2) (laws_toByteS x1)).1.2) (1 : Int)).2))) = true then
                           some ((), (false, ()))
                          else
                           some ((), (true, ()))
                      else
                       none
                     else
                      none
                    else
                     none
             else
              none
           else
            none
        else
         none
       else
        none
      else
       none
     else
      none
    else
     none
   else
    none
theorem eq (x0 : Disk) (x1 : List Int) (hw : wf x0 x1) : raw x0 x1 = some ((), (laws_FnExactAppend x0 x1, ())) := by
  unfold raw
  by_cases hb : (1048576 : Int) < (x1.length : Int)
  · simp [hb, laws_FnExactAppend]
  by_cases h : laws_szDisk x0 1048576 < 0
  · simp [hb, h, laws_FnExactAppend]
  · have hs := sz_small hw.1.1.1 h
    have hsb : small x1 = true := by rw [small_iff]; omega
    have hp : laws_toDisk.pre x0 = true := hs
    have hpb : laws_toByteS.pre x1 = true := hsb
    have hp1 : impl_Append.pre x0 x1 = true := by simp [impl_Append.pre, hs, hsb]
    have hp2 : spec_Append.pre x0 x1 = true := by simp [spec_Append.pre, hs, hsb]
    have hs' := small_Append hs x1
    have hl : x0.1.length ≤ 16777216 := small_iff.1 hs
    have hm := markB2 hsb (k := 1 + (x0.1.length : Int)) (by omega) (by omega)
    have he : laws_eqByteS x1 x1 = true := by simp [laws_eqByteS]
    simp only [laws_toDisk, laws_toByteS, peta]
    simp [hb, h, hp, hpb, hp1, hp2, he, eqDisk_self, mark2 hs, mark2 hs', held_mark hs', hm, not_neg, not_neg2, laws_FnExactAppend]
end laws_FnExactAppend
end Go.Aw.Pl

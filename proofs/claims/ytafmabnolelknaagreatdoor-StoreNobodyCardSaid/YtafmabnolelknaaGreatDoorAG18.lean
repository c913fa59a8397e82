import Derived.Test.YtafmabnolelknaaGreatDoorAG10
import Derived.Test.YtafmabnolelknaaGreatDoorAG14
import Derived.Test.YtafmabnolelknaaGreatDoorAG15
import Derived.Test.YtafmabnolelknaaGreatDoorAG16
import Derived.Test.YtafmabnolelknaaGreatDoorAG17
namespace Go.Proofs.YtafmabnolelknaaGreatDoor
open Go.Ab
set_option linter.unusedVariables false
set_option linter.unusedSimpArgs false
def tab0 : List AV := [.int .u64 1, .int .u64 10, .int .u64 100, .int .u64 1000, .int .u64 10000, .int .u64 100000, .int .u64 1000000, .int .u64 10000000, .int .u64 100000000, .int .u64 1000000000, .int .u64 10000000000, .int .u64 100000000000, .int .u64 1000000000000, .int .u64 10000000000000, .int .u64 100000000000000, .int .u64 1000000000000000, .int .u64 10000000000000000, .int .u64 100000000000000000, .int .u64 1000000000000000000, .int .u64 10000000000000000000]
def tab1 : List AV := [.int .u32 0, .int .u32 498536548, .int .u32 997073096, .int .u32 651767980, .int .u32 1994146192, .int .u32 1802195444, .int .u32 1303535960, .int .u32 1342533948, .int .u32 3988292384, .int .u32 4027552580, .int .u32 3604390888, .int .u32 3412177804, .int .u32 2607071920, .int .u32 2262029012, .int .u32 2685067896, .int .u32 3183342108]
def tab2 : List AV := [.int .u8 0, .int .u8 1, .int .u8 56, .int .u8 2, .int .u8 57, .int .u8 49, .int .u8 28, .int .u8 3, .int .u8 61, .int .u8 58, .int .u8 42, .int .u8 50, .int .u8 38, .int .u8 29, .int .u8 17, .int .u8 4, .int .u8 62, .int .u8 47, .int .u8 59, .int .u8 36, .int .u8 45, .int .u8 43, .int .u8 51, .int .u8 22, .int .u8 53, .int .u8 39, .int .u8 33, .int .u8 30, .int .u8 24, .int .u8 18, .int .u8 12, .int .u8 5, .int .u8 63, .int .u8 55, .int .u8 48, .int .u8 27, .int .u8 60, .int .u8 41, .int .u8 37, .int .u8 16, .int .u8 46, .int .u8 35, .int .u8 44, .int .u8 21, .int .u8 52, .int .u8 32, .int .u8 23, .int .u8 11, .int .u8 54, .int .u8 26, .int .u8 40, .int .u8 15, .int .u8 34, .int .u8 20, .int .u8 31, .int .u8 10, .int .u8 25, .int .u8 14, .int .u8 19, .int .u8 9, .int .u8 13, .int .u8 8, .int .u8 7, .int .u8 6]
def tab3 : List AV := [.int .u8 0, .int .u8 1, .int .u8 28, .int .u8 2, .int .u8 29, .int .u8 14, .int .u8 24, .int .u8 3, .int .u8 30, .int .u8 22, .int .u8 20, .int .u8 15, .int .u8 25, .int .u8 17, .int .u8 4, .int .u8 8, .int .u8 31, .int .u8 27, .int .u8 13, .int .u8 23, .int .u8 21, .int .u8 19, .int .u8 16, .int .u8 7, .int .u8 26, .int .u8 12, .int .u8 18, .int .u8 6, .int .u8 11, .int .u8 5, .int .u8 10, .int .u8 9]
def gsAV : List (Nat × List AV) := [(0, tab0), (1, tab1), (2, tab3), (3, tab2)]
abbrev ov0 : Ovr := ovKS [(125, 191)] 124
noncomputable def eRead (args : List AV) (h : EH) (k : AV → EH → Bool) : Bool :=
  match args with
  | [.ptr p1, .sl q2, .agg [.int .i64 n3, .int .i64 n4, .int .i64 n5, .int .i64 n6], v7] => wrun Tryz.prog slotsOf ov0 60 149 [.ptr p1, .agg [.int .i64 n3, .int .i64 n4, .int .i64 n5, .int .i64 n6]] h fun v h => match v with
    | .tup [.sl q, .int .i64 e] => (match e != 0 with
      | true => k (.tup [.sl none, .int .i64 e]) h
      | false => eNew [.sl q2] true h fun a h => wrun Tryz.prog slotsOf ov0 60 150 [.sl (some ⟨a, 0, 1, 1, 0⟩), .sl q] h fun v h => (match v with
        | .tup [.ptr p, .int .i64 e] => (match e != 0 with
          | true => k (.tup [.sl none, .int .i64 e]) h
          | false => wrun Tryz.prog slotsOf ov0 60 152 [.ptr p, v7] h fun v h => (match v with
            | .tup [.sl q20, .int .i64 n21] => wrun Tryz.prog slotsOf ov0 60 151 [.ptr p] h fun _ h => k (.tup [.sl q20, .int .i64 n21]) h
            | _ => false))
        | _ => false))
    | _ => false
  | _ => false
noncomputable def ovD : Ovr := fun f => match f == 85 with
  | true => some eRead
  | false => ov0 f
theorem ovD_ok : OvrOK Tryz.prog ovD := by
  intro f g hg args e h k Q H hQ hk
  unfold ovD at hg
  split at hg
  · rename_i hf
    cases hg
    have hf' : f = 85 := by simpa using hf
    subst hf'
    unfold eRead at hk
    split at hk
    · rename_i p1 q2 n3 n4 n5 n6 v7
      refine ac85 ?_
      unfold vc85
      refine wrun_ok Tryz.ovOk H (fun v e1 h1 H1 hk => ?_) hk
      split at hk
      · rename_i q10 n11
        refine ⟨q10, n11, rfl, ?_⟩
        split at hk
        · rename_i hz
          exact vif_mk (fun _ => hQ _ _ _ H1 hk) (fun g => by rw [hz] at g; cases g)
        · rename_i hz
          refine vif_mk (fun g => by rw [hz] at g; cases g) (fun _ => ?_)
          obtain ⟨e2, H2, hk⟩ := eNew_ok H1 hk
          refine wrun_ok Tryz.ovOk H2 (fun v e3 h3 H3 hk => ?_) hk
          split at hk
          · rename_i p16 n17
            refine ⟨p16, n17, rfl, ?_⟩
            split at hk
            · rename_i hz
              exact vif_mk (fun _ => hQ _ _ _ H3 hk) (fun g => by rw [hz] at g; cases g)
            · rename_i hz
              refine vif_mk (fun g => by rw [hz] at g; cases g) (fun _ => ?_)
              refine wrun_ok Tryz.ovOk H3 (fun v e4 h4 H4 hk => ?_) hk
              split at hk
              · rename_i q20 n21
                refine ⟨q20, n21, rfl, ?_⟩
                exact wrun_okD Tryz.ovOk (by rfl) H4 (fun v e5 h5 H5 hk => hQ _ _ _ H5 hk) hk
              · simp at hk
          · simp at hk
      · simp at hk
    · simp at hk
  · exact Tryz.ovOk f g hg args e h k Q H hQ hk
end Go.Proofs.YtafmabnolelknaaGreatDoor
namespace Go.Proofs.YtafmabnolelknaaGreatDoor
open Go.Ab
set_option linter.unusedVariables false
set_option maxRecDepth 100000 in
theorem runw13 : wlaidE 0 gsAV ⟨.e, 0⟩ (fun h => wrun Tryz.prog slotsOf ovD 60 13 [] h isTrue) = true := by kernel_rfl
end Go.Proofs.YtafmabnolelknaaGreatDoor

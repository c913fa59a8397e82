import Derived.Test.YtjackggnnjdhmaaGreatDoorCG11
import Derived.Test.YtjackggnnjdhmaaGreatDoorCG13
namespace Go.Proofs.YtjackggnnjdhmaaGreatDoor
open Go.Ab Go.Proofs
set_option linter.unusedVariables false
set_option linter.unusedSimpArgs false
def slotsTab : List (Nat × List (Nat × List Nat)) := [
 (3, [(0, [3])]),
 (4, [(0, [6]), (2, [7])]),
 (8, [(0, [5])]),
 (12, [(0, [3, 4]), (2, [3, 5])]),
 (13, [(0, [3, 4])]),
 (15, [(0, [17])]),
 (18, [(0, [40]), (2, [51]), (4, [72])]),
 (22, [(0, [5])]),
 (26, [(0, [7])]),
 (37, [(0, [10])]),
 (41, [(0, [6, 28])]),
 (46, [(0, [7])]),
 (52, [(0, [30])]),
 (57, [(0, [0, 3])]),
 (61, [(0, [5])]),
 (65, [(0, [19]), (2, [9, 48])]),
 (66, [(0, [4, 27])]),
 (68, [(0, [0, 10])]),
 (70, [(0, [5, 6]), (2, [49])]),
 (72, [(0, [0, 9])]),
 (84, [(0, [13])]),
 (85, [(0, [10])]),
 (89, [(0, [5, 20])]),
 (93, [(0, [6, 7])]),
 (99, [(0, [72]), (2, [80])]),
 (104, [(0, [6, 7, 12])]),
 (107, [(0, [6, 19])]),
 (108, [(0, [17])]),
 (114, [(0, [13])]),
 (115, [(0, [13])]),
 (116, [(0, [17])]),
 (120, [(0, [3, 14])]),
 (122, [(0, [3, 12])]),
 (123, [(0, [3, 13])]),
 (124, [(0, [3, 13])]),
 (126, [(0, [3, 13]), (2, [3, 26])]),
 (129, [(0, [12])]),
 (130, [(0, [0, 7])]),
 (131, [(0, [0, 5])]),
 (141, [(0, [17])]),
 (142, [(0, [3, 9])]),
 (143, [(0, [8])]),
 (144, [(0, [8])]),
 (145, [(0, [0, 3])]),
 (146, [(0, [11])]),
 (149, [(0, [3, 11]), (2, [6, 27])]),
 (151, [(0, [14])]),
 (152, [(0, [6, 20])]),
 (154, [(0, [4, 14]), (2, [7, 23])]),
 (156, [(0, [8, 27])]),
 (158, [(0, [55])]),
 (160, [(0, [7])]),
 (168, [(0, [6, 14])]),
 (173, [(0, [1, 4])]),
 (174, [(0, [1, 13]), (2, [1, 13])]),
 (177, [(0, [3])]),
 (180, [(0, [3, 29]), (2, [3, 55])]),
 (182, [(0, [3, 16])]),
 (184, [(0, [5, 16])]),
 (185, [(0, [9, 19])]),
 (189, [(0, [2])]),
 (192, [(1, [8, 10])]),
 (195, [(0, [8])]),
 (196, [(0, [8])]),
 (206, [(0, [8])]),
 (209, [(0, []), (2, [23])]),
 (215, [(0, [66])]),
 (216, [(0, [0, 9])]),
 (220, [(0, [16]), (2, [])]),
 (222, [(0, [10])]),
 (225, [(0, [4, 23])]),
 (226, [(0, [5, 10])]),
 (227, [(0, [22])]),
 (228, [(0, [3, 8])]),
 (238, [(0, [3])]),
 (260, [(0, [8, 9]), (2, [8, 10])]),
 (261, [(0, [8])]),
 (267, [(0, [1, 2, 3, 10, 11])]),
 (269, [(0, [8])]),
 (271, [(0, [5])]),
 (272, [(0, [15])]),
 (273, [(0, [3, 13]), (2, [3, 21])]),
 (277, [(0, [0, 4])]),
 (278, [(0, [7, 18])]),
 (279, [(0, [8])]),
 (285, [(0, [4])]),
 (286, [(0, [29])]),
 (288, [(0, [22])]),
 (290, [(0, [7])]),
 (291, [(0, [])]),
 (293, [(0, [3, 9])]),
 (299, [(0, [7, 8])]),
 (303, [(0, [12])]),
 (306, [(0, [15])]),
 (319, [(0, [])]),
 (320, [(0, [8])]),
 (321, [(0, [1, 2, 3, 10, 11])]),
 (326, [(0, [4, 5]), (2, [6, 7, 8])]),
 (328, [(0, [8]), (2, [9])]),
 (329, [(0, [11]), (2, [12])]),
 (330, [(0, [11])]),
 (332, [(0, [8, 9])]),
 (333, [(0, [9, 10]), (2, [9]), (4, [11]), (6, [12])]),
 (334, [(0, [11, 12]), (2, [11]), (4, [12])]),
 (335, [(0, [12]), (2, [13]), (4, [12, 13]), (6, [12]), (8, [13])]),
 (339, [(0, [8, 54])]),
 (340, [(0, [7, 41]), (2, [7, 61])]),
 (344, [(0, [5]), (2, [5, 7])]),
 (346, [(0, [7, 14])]),
 (347, [(0, [27])]),
 (349, [(0, [5, 24])]),
 (353, [(0, [15])]),
 (355, [(0, [29])]),
 (359, [(0, [27])]),
 (360, [(0, [38])]),
 (362, [(0, [27]), (2, [12, 121])]),
 (363, [(0, [5, 12])]),
 (364, [(1, [51])]),
 (365, [(0, [3, 12])]),
 (368, [(0, [3, 24]), (2, [71])]),
 (373, [(0, [27])]),
 (375, [(0, [5])]),
 (377, [(0, [6, 27])]),
 (382, [(0, [])]),
 (383, [(0, [1, 2, 3, 10, 11])]),
 (384, [(0, [8])]),
 (386, [(0, [1, 2, 3, 8, 9])]),
 (387, [(0, [8]), (2, [9])]),
 (388, [(0, [11]), (2, [12])]),
 (389, [(0, [11])]),
 (391, [(0, [8, 9])]),
 (392, [(0, [9, 10]), (2, [9]), (4, [11]), (6, [12])]),
 (393, [(0, [11, 12]), (2, [11]), (4, [12])]),
 (394, [(0, [12]), (2, [13]), (4, [12, 13]), (6, [12]), (8, [13])]),
 (397, [(0, [10])]),
 (403, [(0, [7, 14]), (2, [7, 22])]),
 (405, [(0, [7, 17])]),
 (406, [(0, [7, 8]), (2, [6]), (4, [7, 8])]),
 (411, [(0, [12]), (2, [19])]),
 (417, [(0, [36])]),
 (423, [(0, [8, 23])]),
 (427, [(0, [23])]),
 (431, [(0, [6, 16])]),
 (432, [(0, [62]), (2, [89]), (4, [103]), (6, [118])]),
 (435, [(0, [12, 21])]),
 (438, [(0, [6, 7, 25])]),
 (442, [(0, [4])]),
 (443, [(0, [5, 6, 17])]),
 (447, [(0, [5, 11])]),
 (449, [(0, [1, 2, 3, 10, 11])]),
 (450, [(0, [8]), (2, [9])]),
 (451, [(0, [11]), (2, [12])]),
 (452, [(0, [11])]),
 (454, [(0, [8, 9])]),
 (455, [(0, [9, 10]), (2, [9]), (4, [11]), (6, [12])]),
 (456, [(0, [11, 12]), (2, [11]), (4, [12])]),
 (457, [(0, [12]), (2, [13]), (4, [12, 13]), (6, [12]), (8, [13])]),
 (458, [(0, [6]), (2, [7])]),
 (459, [(0, [9]), (2, [10])]),
 (460, [(0, [9])]),
 (462, [(0, [6, 7])]),
 (463, [(0, [7, 8]), (2, [7]), (4, [9]), (6, [10])]),
 (465, [(0, [9, 10]), (2, [9]), (4, [10])]),
 (466, [(0, [10]), (2, [11]), (4, [10, 11]), (6, [10]), (8, [11])]),
 (467, [(0, [10])]),
 (472, [(0, [8]), (2, [9])]),
 (473, [(0, [10, 11]), (2, [13]), (4, [14, 15]), (6, [17]), (8, [20, 21])]),
 (476, [(0, [13])]),
 (478, [(0, [8])]),
 (479, [(0, [5, 29])]),
 (480, [(1, [8, 44])]),
 (482, [(0, [5, 6])]),
 (485, [(0, [3, 14])]),
 (486, [(1, [60])]),
 (490, [(1, [16])]),
 (491, [(0, [5, 6])]),
 (496, [(0, [0, 9])]),
 (497, [(0, [38])]),
 (499, [(0, [10])]),
 (506, [(0, [8])]),
 (509, [(0, [8])]),
 (512, [(0, [8]), (2, [9])]),
 (513, [(0, [11]), (2, [12])]),
 (514, [(0, [11])]),
 (516, [(0, [8, 9])]),
 (517, [(0, [9, 10]), (2, [9]), (4, [11]), (6, [12])]),
 (518, [(0, [11, 12]), (2, [11]), (4, [12])]),
 (519, [(0, [12]), (2, [13]), (4, [12, 13]), (6, [12]), (8, [13])]),
 (520, [(0, [10])]),
 (523, [(0, [8])]),
 (528, [(0, [10, 11])]),
 (532, [(0, [])]),
 (533, [(0, [3, 10])]),
 (537, [(0, [3, 9])]),
 (539, [(0, [8])]),
 (541, [(0, [4, 15])]),
 (547, [(0, [8])]),
 (548, [(0, [19])]),
 (549, [(0, [19]), (2, [28])]),
 (553, [(0, [8])]),
 (554, [(0, [6, 18]), (2, [37])]),
 (555, [(0, [22]), (2, [37])]),
 (556, [(0, [11])]),
 (557, [(0, [6])]),
 (561, [(0, [42])]),
 (565, [(0, [5, 16])]),
 (568, [(0, [10])]),
 (573, [(0, [10])]),
 (577, [(0, [4])]),
 (578, [(0, [])]),
 (579, [(0, [4])]),
 (580, [(0, [5, 6])]),
 (586, [(0, [6])]),
 (587, [(0, [32])]),
 (588, [(0, [9])]),
 (590, [(0, [3]), (2, [3, 5])]),
 (593, [(0, [33])]),
 (595, [(0, [17]), (2, [27])]),
 (597, [(0, [3])]),
 (603, [(0, [3, 10])]),
 (604, [(0, [3, 11]), (2, [6, 27])]),
 (605, [(0, [3, 10])]),
 (608, [(0, [5, 12])]),
 (611, [(0, [5, 6])]),
 (616, [(0, [8])]),
 (619, [(0, [8])]),
 (621, [(0, [16])]),
 (626, [(0, [8])]),
 (627, [(0, [7])]),
 (630, [(0, [1, 2, 3, 10, 11])]),
 (635, [(0, [8])]),
 (638, [(0, [1])]),
 (639, [(0, [8]), (2, [9])]),
 (640, [(0, [11]), (2, [12])]),
 (641, [(0, [11])]),
 (643, [(0, [8, 9])]),
 (644, [(0, [9, 10]), (2, [9]), (4, [11]), (6, [12])]),
 (645, [(0, [11, 12]), (2, [11]), (4, [12])]),
 (646, [(0, [12]), (2, [13]), (4, [12, 13]), (6, [12]), (8, [13])]),
 (649, [(0, [])]),
 (652, [(0, [10])]),
 (656, [(0, [8])]),
 (660, [(0, [5, 15])]),
 (683, [(0, [3, 11])])]
def slotsOf (f : FuncId) (c : Nat) : List Nat := match slotsTab.find? (fun x => Nat.beq x.1 f) with | some (_, l) => (match l.find? (fun x => Nat.beq x.1 c) with | some (_, s) => s | none => []) | none => []
abbrev ov0 : Ovr := ovKS [(244, 319), (477, 532)] 243
theorem runOK_grun {ov : Ovr} (O : OvrOK Tryz.prog ov) (n : Nat) (f : FuncId) : RunOK Tryz.prog f (grun Tryz.prog slotsOf ov n f) := fun args e h k Q H hQ hk => grun_ok O H hQ hk
theorem callOK_grun {ov : Ovr} (O : OvrOK Tryz.prog ov) (n : Nat) : CallOK Tryz.prog (grun Tryz.prog slotsOf ov n) := fun f args e h k Q H hQ hk => grun_ok O H hQ hk
noncomputable def ovAdd (f0 : FuncId) (w : RunT) (ov : Ovr) : Ovr := fun f => Bool.rec (motive := fun _ => Option RunT) (ov f) (some w) (Nat.beq f f0)
theorem ovAdd_ok {f0 : FuncId} {w : RunT} {ov : Ovr} (hw : RunOK Tryz.prog f0 w) (O : OvrOK Tryz.prog ov) : OvrOK Tryz.prog (ovAdd f0 w ov) := by
  intro f g hg
  unfold ovAdd at hg
  cases hb : Nat.beq f f0 with
  | true =>
    rw [hb] at hg
    have e := Nat.eq_of_beq_eq_true hb
    subst e
    cases hg
    exact hw
  | false =>
    rw [hb] at hg
    exact O f g hg
theorem esp_ok {ov : Ovr} (O : OvrOK Tryz.prog ov) (f : FuncId) : RunOK Tryz.prog f (espfun Tryz.prog slotsOf (grun Tryz.prog slotsOf ov 60) f) := fun args e h k Q H hQ hk => espfun_ok (callOK_grun O 60) slotsOf f args e h k Q H hQ hk
noncomputable def ovZ : Ovr := ovAdd 448 (espfun Tryz.prog slotsOf (grun Tryz.prog slotsOf ov0 60) 448) ov0
theorem ovZ_ok : OvrOK Tryz.prog ovZ := ovAdd_ok (esp_ok Tryz.ovOk 448) Tryz.ovOk
noncomputable def ovA : Ovr := ovAdd 238 (eStamps (grun Tryz.prog slotsOf ov0 60 238)) (ovAdd 308 (eSortP (grun Tryz.prog slotsOf ovZ 60 308)) ov0)
theorem ovA_ok : OvrOK Tryz.prog ovA := ovAdd_ok (eStamps_ok (runOK_grun Tryz.ovOk 60 238)) (ovAdd_ok (eSortP_ok (runOK_grun ovZ_ok 60 308)) Tryz.ovOk)
noncomputable def ovB : Ovr := ovAdd 385 (espfun Tryz.prog slotsOf (grun Tryz.prog slotsOf ovA 60) 385) (ovAdd 576 (espfun Tryz.prog slotsOf (grun Tryz.prog slotsOf ovA 60) 576) ovA)
theorem ovB_ok : OvrOK Tryz.prog ovB := ovAdd_ok (esp_ok ovA_ok 385) (ovAdd_ok (esp_ok ovA_ok 576) ovA_ok)
noncomputable def eRead (args : List AV) (h : EH) (k : AV → EH → Bool) : Bool :=
  match args with
  | [.ptr p1, .sl q2, .agg [.int .i64 n3, .int .i64 n4, .int .i64 n5, .int .i64 n6], v7] => grun Tryz.prog slotsOf ovB 60 554 [.ptr p1, .agg [.int .i64 n3, .int .i64 n4, .int .i64 n5, .int .i64 n6]] h fun v h => match v with
    | .tup [.sl q, .int .i64 e] => (match e != 0 with
      | true => k (.tup [.sl none, .int .i64 e]) h
      | false => eNew [.sl q2] true h fun a h => grun Tryz.prog slotsOf ovB 60 555 [.sl (some ⟨a, 0, 1, 1, 0⟩), .sl q] h fun v h => (match v with
        | .tup [.ptr p, .int .i64 e] => (match e != 0 with
          | true => k (.tup [.sl none, .int .i64 e]) h
          | false => grun Tryz.prog slotsOf ovB 60 557 [.ptr p, v7] h fun v h => (match v with
            | .tup [.sl q20, .int .i64 n21] => grun Tryz.prog slotsOf ovB 60 556 [.ptr p] h fun _ h => k (.tup [.sl q20, .int .i64 n21]) h
            | _ => false))
        | _ => false))
    | _ => false
  | _ => false
theorem eRead_ok : RunOK Tryz.prog 493 eRead := by
  intro args e h k Q H hQ hk
  unfold eRead at hk
  split at hk
  · rename_i p1 q2 n3 n4 n5 n6 v7
    refine ac493 ?_
    unfold vc493
    refine grun_ok ovB_ok H (fun v e1 h1 H1 hk => ?_) hk
    split at hk
    · rename_i q10 n11
      refine ⟨q10, n11, rfl, ?_⟩
      split at hk
      · rename_i hz
        exact vif_mk (fun _ => hQ _ _ _ H1 hk) (fun g => by rw [hz] at g; cases g)
      · rename_i hz
        refine vif_mk (fun g => by rw [hz] at g; cases g) (fun _ => ?_)
        obtain ⟨e2, H2, hk⟩ := eNew_ok H1 hk
        refine grun_ok ovB_ok H2 (fun v e3 h3 H3 hk => ?_) hk
        split at hk
        · rename_i p16 n17
          refine ⟨p16, n17, rfl, ?_⟩
          split at hk
          · rename_i hz
            exact vif_mk (fun _ => hQ _ _ _ H3 hk) (fun g => by rw [hz] at g; cases g)
          · rename_i hz
            refine vif_mk (fun g => by rw [hz] at g; cases g) (fun _ => ?_)
            refine grun_ok ovB_ok H3 (fun v e4 h4 H4 hk => ?_) hk
            split at hk
            · rename_i q20 n21
              refine ⟨q20, n21, rfl, ?_⟩
              exact grun_okD ovB_ok (by rfl) H4 (fun v e5 h5 H5 hk => hQ _ _ _ H5 hk) hk
            · simp at hk
        · simp at hk
    · simp at hk
  · simp at hk
noncomputable def ovC : Ovr := ovAdd 493 eRead ovB
theorem ovC_ok : OvrOK Tryz.prog ovC := ovAdd_ok eRead_ok ovB_ok
noncomputable def esp (f : FuncId) : RunT := espfun Tryz.prog slotsOf (grun Tryz.prog slotsOf ovC 60) f
noncomputable def ovS : Ovr := ovAdd 178 (esp 178) (ovAdd 426 (esp 426) (ovAdd 429 (esp 429) (ovAdd 437 (esp 437) (ovAdd 682 (esp 682) ovC))))
theorem ovS_ok : OvrOK Tryz.prog ovS := ovAdd_ok (esp_ok ovC_ok 178) (ovAdd_ok (esp_ok ovC_ok 426) (ovAdd_ok (esp_ok ovC_ok 429) (ovAdd_ok (esp_ok ovC_ok 437) (ovAdd_ok (esp_ok ovC_ok 682) ovC_ok))))
end Go.Proofs.YtjackggnnjdhmaaGreatDoor

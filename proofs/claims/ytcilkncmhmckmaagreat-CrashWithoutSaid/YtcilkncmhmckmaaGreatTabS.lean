/-
  The table of short codes, and that each is what the optimiser makes of the translated code.
-/
import Derived.Test.YtcilkncmhmckmaaGreatCanZE
import Derived.Test.YtcilkncmhmckmaaGreatTabSa
import Derived.Test.YtcilkncmhmckmaaGreatTabSb
namespace Go.Can
open Go
set_option linter.all false
set_option maxRecDepth 100000
noncomputable def tabTabS : Tab := [(6, S_n6, R_n6), (8, S_n8, R_n8), (15, S_n15, R_n15), (16, S_n16, R_n16), (17, S_n17, R_n17), (18, S_n18, R_n18), (21, S_n21, R_n21), (24, S_n24, R_n24), (25, S_n25, R_n25), (26, S_n26, R_n26), (27, S_n27, R_n27), (28, S_n28, R_n28), (29, S_n29, R_n29), (30, S_n30, R_n30), (31, S_n31, R_n31), (34, S_n34, R_n34), (37, S_n37, R_n37), (38, S_n38, R_n38), (39, S_n39, R_n39), (40, S_n40, R_n40), (41, S_n41, R_n41), (42, S_n42, R_n42), (43, S_n43, R_n43), (44, S_n44, R_n44), (45, S_n45, R_n45), (48, S_n48, R_n48), (49, S_n49, R_n49), (50, S_n50, R_n50), (62, S_n62, R_n62), (63, S_n63, R_n63), (64, S_n64, R_n64), (66, S_n66, R_n66), (67, S_n67, R_n67), (68, S_n68, R_n68), (69, S_n69, R_n69), (70, S_n70, R_n70), (88, S_n88, R_n88), (89, S_n89, R_n89), (90, S_n90, R_n90), (91, S_n91, R_n91), (116, S_n116, R_n116), (117, S_n117, R_n117), (118, S_n118, R_n118), (119, S_n119, R_n119), (120, S_n120, R_n120), (121, S_n121, R_n121), (126, S_n126, R_n126), (131, S_n131, R_n131), (170, S_n170, R_n170), (171, S_n171, R_n171), (172, S_n172, R_n172), (173, S_n173, R_n173), (191, S_n191, R_n191), (192, S_n192, R_n192), (193, S_n193, R_n193), (194, S_n194, R_n194), (195, S_n195, R_n195), (196, S_n196, R_n196), (206, S_n206, R_n206), (207, S_n207, R_n207), (221, S_n221, R_n221), (263, S_n263, R_n263), (264, S_n264, R_n264), (265, S_n265, R_n265), (266, S_n266, R_n266), (267, S_n267, R_n267), (268, S_n268, R_n268), (269, S_n269, R_n269), (270, S_n270, R_n270), (271, S_n271, R_n271), (272, S_n272, R_n272), (273, S_n273, R_n273), (274, S_n274, R_n274), (275, S_n275, R_n275), (276, S_n276, R_n276), (277, S_n277, R_n277), (278, S_n278, R_n278), (279, S_n279, R_n279), (280, S_n280, R_n280), (281, S_n281, R_n281), (282, S_n282, R_n282), (283, S_n283, R_n283), (284, S_n284, R_n284), (285, S_n285, R_n285), (286, S_n286, R_n286), (287, S_n287, R_n287), (288, S_n288, R_n288), (289, S_n289, R_n289), (290, S_n290, R_n290), (291, S_n291, R_n291), (292, S_n292, R_n292), (293, S_n293, R_n293), (294, S_n294, R_n294), (295, S_n295, R_n295), (296, S_n296, R_n296), (297, S_n297, R_n297), (298, S_n298, R_n298), (299, S_n299, R_n299), (304, S_n304, R_n304), (305, S_n305, R_n305), (306, S_n306, R_n306), (307, S_n307, R_n307), (308, S_n308, R_n308), (309, S_n309, R_n309), (310, S_n310, R_n310), (311, S_n311, R_n311), (312, S_n312, R_n312), (313, S_n313, R_n313), (314, S_n314, R_n314), (315, S_n315, R_n315), (316, S_n316, R_n316), (317, S_n317, R_n317), (318, S_n318, R_n318)]
theorem tabTabS_ok : TabOk PP tabTabS := by
  intro e he
  simp only [tabTabS, List.mem_cons, List.not_mem_nil, or_false] at he
  rcases he with rfl | rfl | rfl | rfl | rfl | rfl | rfl | rfl | rfl | rfl | rfl | rfl | rfl | rfl | rfl | rfl | rfl | rfl | rfl | rfl | rfl | rfl | rfl | rfl | rfl | rfl | rfl | rfl | rfl | rfl | rfl | rfl | rfl | rfl | rfl | rfl | rfl | rfl | rfl | rfl | rfl | rfl | rfl | rfl | rfl | rfl | rfl | rfl | rfl | rfl | rfl | rfl | rfl | rfl | rfl | rfl | rfl | rfl | rfl | rfl | rfl | rfl | rfl | rfl | rfl | rfl | rfl | rfl | rfl | rfl | rfl | rfl | rfl | rfl | rfl | rfl | rfl | rfl | rfl | rfl | rfl | rfl | rfl | rfl | rfl | rfl | rfl | rfl | rfl | rfl | rfl | rfl | rfl | rfl | rfl | rfl | rfl | rfl | rfl | rfl | rfl | rfl | rfl | rfl | rfl | rfl | rfl | rfl | rfl | rfl | rfl | rfl | rfl
  · exact ⟨_, short_n6⟩
  · exact ⟨_, short_n8⟩
  · exact ⟨_, short_n15⟩
  · exact ⟨_, short_n16⟩
  · exact ⟨_, short_n17⟩
  · exact ⟨_, short_n18⟩
  · exact ⟨_, short_n21⟩
  · exact ⟨_, short_n24⟩
  · exact ⟨_, short_n25⟩
  · exact ⟨_, short_n26⟩
  · exact ⟨_, short_n27⟩
  · exact ⟨_, short_n28⟩
  · exact ⟨_, short_n29⟩
  · exact ⟨_, short_n30⟩
  · exact ⟨_, short_n31⟩
  · exact ⟨_, short_n34⟩
  · exact ⟨_, short_n37⟩
  · exact ⟨_, short_n38⟩
  · exact ⟨_, short_n39⟩
  · exact ⟨_, short_n40⟩
  · exact ⟨_, short_n41⟩
  · exact ⟨_, short_n42⟩
  · exact ⟨_, short_n43⟩
  · exact ⟨_, short_n44⟩
  · exact ⟨_, short_n45⟩
  · exact ⟨_, short_n48⟩
  · exact ⟨_, short_n49⟩
  · exact ⟨_, short_n50⟩
  · exact ⟨_, short_n62⟩
  · exact ⟨_, short_n63⟩
  · exact ⟨_, short_n64⟩
  · exact ⟨_, short_n66⟩
  · exact ⟨_, short_n67⟩
  · exact ⟨_, short_n68⟩
  · exact ⟨_, short_n69⟩
  · exact ⟨_, short_n70⟩
  · exact ⟨_, short_n88⟩
  · exact ⟨_, short_n89⟩
  · exact ⟨_, short_n90⟩
  · exact ⟨_, short_n91⟩
  · exact ⟨_, short_n116⟩
  · exact ⟨_, short_n117⟩
  · exact ⟨_, short_n118⟩
  · exact ⟨_, short_n119⟩
  · exact ⟨_, short_n120⟩
  · exact ⟨_, short_n121⟩
  · exact ⟨_, short_n126⟩
  · exact ⟨_, short_n131⟩
  · exact ⟨_, short_n170⟩
  · exact ⟨_, short_n171⟩
  · exact ⟨_, short_n172⟩
  · exact ⟨_, short_n173⟩
  · exact ⟨_, short_n191⟩
  · exact ⟨_, short_n192⟩
  · exact ⟨_, short_n193⟩
  · exact ⟨_, short_n194⟩
  · exact ⟨_, short_n195⟩
  · exact ⟨_, short_n196⟩
  · exact ⟨_, short_n206⟩
  · exact ⟨_, short_n207⟩
  · exact ⟨_, short_n221⟩
  · exact ⟨_, short_n263⟩
  · exact ⟨_, short_n264⟩
  · exact ⟨_, short_n265⟩
  · exact ⟨_, short_n266⟩
  · exact ⟨_, short_n267⟩
  · exact ⟨_, short_n268⟩
  · exact ⟨_, short_n269⟩
  · exact ⟨_, short_n270⟩
  · exact ⟨_, short_n271⟩
  · exact ⟨_, short_n272⟩
  · exact ⟨_, short_n273⟩
  · exact ⟨_, short_n274⟩
  · exact ⟨_, short_n275⟩
  · exact ⟨_, short_n276⟩
  · exact ⟨_, short_n277⟩
  · exact ⟨_, short_n278⟩
  · exact ⟨_, short_n279⟩
  · exact ⟨_, short_n280⟩
  · exact ⟨_, short_n281⟩
  · exact ⟨_, short_n282⟩
  · exact ⟨_, short_n283⟩
  · exact ⟨_, short_n284⟩
  · exact ⟨_, short_n285⟩
  · exact ⟨_, short_n286⟩
  · exact ⟨_, short_n287⟩
  · exact ⟨_, short_n288⟩
  · exact ⟨_, short_n289⟩
  · exact ⟨_, short_n290⟩
  · exact ⟨_, short_n291⟩
  · exact ⟨_, short_n292⟩
  · exact ⟨_, short_n293⟩
  · exact ⟨_, short_n294⟩
  · exact ⟨_, short_n295⟩
  · exact ⟨_, short_n296⟩
  · exact ⟨_, short_n297⟩
  · exact ⟨_, short_n298⟩
  · exact ⟨_, short_n299⟩
  · exact ⟨_, short_n304⟩
  · exact ⟨_, short_n305⟩
  · exact ⟨_, short_n306⟩
  · exact ⟨_, short_n307⟩
  · exact ⟨_, short_n308⟩
  · exact ⟨_, short_n309⟩
  · exact ⟨_, short_n310⟩
  · exact ⟨_, short_n311⟩
  · exact ⟨_, short_n312⟩
  · exact ⟨_, short_n313⟩
  · exact ⟨_, short_n314⟩
  · exact ⟨_, short_n315⟩
  · exact ⟨_, short_n316⟩
  · exact ⟨_, short_n317⟩
  · exact ⟨_, short_n318⟩
end Go.Can

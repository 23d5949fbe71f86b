/- The machine, part 5. No conditions of its own: each theorem bears its own. -/
import Derived.Test.YthmpeecooedidaaGreatMd
set_option linter.unusedSimpArgs false
set_option linter.unusedVariables false
namespace Go.AM
noncomputable section
def preM11 (v:Value):List (Nat×AObj):=[(403,.map [] 0),
 (404,bl 81 0 none [(vm 403),(.slice none 0 0),(vi 10)]),
 (796,.map [((st [77]),(vp 850 0))] 1),
 (797,.map [((st [73,78,84,69,71,69,82]),(vp 806 0)),((st [66,79,79,76,69,65,78]),(vp 810 0)),((st [67,72,65,82]),(vp 814 0)),((st [66,89,84,69]),(vp 818 0)),((st [83,69,84]),(vp 822 0)),((st [65,66,83]),(vp 825 0)),((st [79,68,68]),(vp 826 0)),((st [79,82,68]),(vp 827 0)),((st [67,72,82]),(vp 828 0)),((st [76,83,76]),(vp 829 0)),((st [65,83,82]),(vp 830 0)),((st [76,69,78]),(vp 831 0)),((st [73,78,67]),(vp 832 0)),((st [68,69,67]),(vp 833 0)),((st [78,69,87]),(vp 834 0)),((st [65,83,83,69,82,84]),(vp 835 0)),((st [72,65,76,84]),(vp 836 0)),((st [79,76,68]),(vp 837 0)),((st [70,82,69,83,72]),(vp 838 0)),((st [69,79,70]),(vp 839 0)),((st [76,69,78,71,84,72]),(vp 840 0)),((st [82,69,65,68]),(vp 841 0)),((st [87,82,73,84,69]),(vp 842 0)),((st [82,69,65,68,87]),(vp 843 0)),((st [87,82,73,84,69,87]),(vp 844 0)),((st [83,69,69,75]),(vp 845 0)),((st [82,69,71,73,83,84,69,82]),(vp 846 0)),((st [68,69,76,69,84,69]),(vp 847 0))] 28),
 (798,bl 158 0 none [(vm 797),vN,(.map none)]),
 (799,.map [((vi 20),(.func (.func 115) #[] #[])),((vi 21),(.func (.func 116) #[] #[])),((vi 22),(.func (.func 117) #[] #[])),((vi 23),(.func (.func 118) #[] #[])),((vi 24),(.func (.func 119) #[] #[]))] 5),
 (800,bl 138 0 none [(vp 404 0),(vi 999),v,(vi 0),(vi 0),(vi 0),vF,vF,(vm 796),(vp 798 0),(vm 799)]),
 (805,bl 217 0 none [(vi 1),(vi 0),vN,(.slice none 0 0),(.map none),(vi 4)]),
 (806,bl 154 0 none [(vi 0),(vu 0),vN,(st []),(vp 805 0),vN,vN,vN,vN,.nilFunc]),
 (809,bl 217 0 none [(vi 2),(vi 0),vN,(.slice none 0 0),(.map none),(vi 1)]),
 (810,bl 154 0 none [(vi 0),(vu 0),vN,(st []),(vp 809 0),vN,vN,vN,vN,.nilFunc]),
 (813,bl 217 0 none [(vi 3),(vi 0),vN,(.slice none 0 0),(.map none),(vi 1)]),
 (814,bl 154 0 none [(vi 0),(vu 0),vN,(st []),(vp 813 0),vN,vN,vN,vN,.nilFunc]),
 (817,bl 217 0 none [(vi 4),(vi 0),vN,(.slice none 0 0),(.map none),(vi 1)]),
 (818,bl 154 0 none [(vi 0),(vu 0),vN,(st []),(vp 817 0),vN,vN,vN,vN,.nilFunc]),
 (821,bl 217 0 none [(vi 5),(vi 0),vN,(.slice none 0 0),(.map none),(vi 4)]),
 (822,bl 154 0 none [(vi 0),(vu 0),vN,(st []),(vp 821 0),vN,vN,vN,vN,.nilFunc]),
 (825,bl 154 0 none [(vi 0),(vu 0),vN,(st []),vN,vN,vN,vN,vN,(.func (.func 120) #[] #[])]),
 (826,bl 154 0 none [(vi 0),(vu 0),vN,(st []),vN,vN,vN,vN,vN,(.func (.func 121) #[] #[])]),
 (827,bl 154 0 none [(vi 0),(vu 0),vN,(st []),vN,vN,vN,vN,vN,(.func (.func 122) #[] #[])]),
 (828,bl 154 0 none [(vi 0),(vu 0),vN,(st []),vN,vN,vN,vN,vN,(.func (.func 123) #[] #[])]),
 (829,bl 154 0 none [(vi 0),(vu 0),vN,(st []),vN,vN,vN,vN,vN,(.func (.func 124) #[] #[])]),
 (830,bl 154 0 none [(vi 0),(vu 0),vN,(st []),vN,vN,vN,vN,vN,(.func (.func 125) #[] #[])]),
 (831,bl 154 0 none [(vi 0),(vu 0),vN,(st []),vN,vN,vN,vN,vN,(.func (.func 126) #[] #[])]),
 (832,bl 154 0 none [(vi 0),(vu 0),vN,(st []),vN,vN,vN,vN,vN,(.func (.func 127) #[] #[])]),
 (833,bl 154 0 none [(vi 0),(vu 0),vN,(st []),vN,vN,vN,vN,vN,(.func (.func 128) #[] #[])]),
 (834,bl 154 0 none [(vi 0),(vu 0),vN,(st []),vN,vN,vN,vN,vN,(.func (.func 129) #[] #[])]),
 (835,bl 154 0 none [(vi 0),(vu 0),vN,(st []),vN,vN,vN,vN,vN,(.func (.func 130) #[] #[])]),
 (836,bl 154 0 none [(vi 0),(vu 0),vN,(st []),vN,vN,vN,vN,vN,(.func (.func 131) #[] #[])]),
 (837,bl 154 0 none [(vi 0),(vu 0),vN,(st []),vN,vN,vN,vN,vN,(.func (.func 132) #[] #[])]),
 (838,bl 154 0 none [(vi 0),(vu 0),vN,(st []),vN,vN,vN,vN,vN,(.func (.func 133) #[] #[])]),
 (839,bl 154 0 none [(vi 0),(vu 0),vN,(st []),vN,vN,vN,vN,vN,(.func (.func 134) #[] #[])]),
 (840,bl 154 0 none [(vi 0),(vu 0),vN,(st []),vN,vN,vN,vN,vN,(.func (.func 135) #[] #[])]),
 (841,bl 154 0 none [(vi 0),(vu 0),vN,(st []),vN,vN,vN,vN,vN,(.func (.func 136) #[] #[])]),
 (842,bl 154 0 none [(vi 0),(vu 0),vN,(st []),vN,vN,vN,vN,vN,(.func (.func 137) #[] #[])]),
 (843,bl 154 0 none [(vi 0),(vu 0),vN,(st []),vN,vN,vN,vN,vN,(.func (.func 138) #[] #[])]),
 (844,bl 154 0 none [(vi 0),(vu 0),vN,(st []),vN,vN,vN,vN,vN,(.func (.func 139) #[] #[])]),
 (845,bl 154 0 none [(vi 0),(vu 0),vN,(st []),vN,vN,vN,vN,vN,(.func (.func 140) #[] #[])]),
 (846,bl 154 0 none [(vi 0),(vu 0),vN,(st []),vN,vN,vN,vN,vN,(.func (.func 141) #[] #[])]),
 (847,bl 154 0 none [(vi 0),(vu 0),vN,(st []),vN,vN,vN,vN,vN,(.func (.func 142) #[] #[])]),
 (849,.map [((st [120]),(vp 856 0))] 1),
 (850,bl 158 0 none [(vm 849),(vp 798 0),(vm 851)]),
 (851,.pmap [] 0)]
def M11:MS:=⟨873,preM11,800,850,fun p=>Nat.add 825 p⟩
def preM12 (v:Value):List (Nat×AObj):=[(403,.map [] 0),
 (404,bl 81 0 none [(vm 403),(.slice none 0 0),(vi 10)]),
 (1351,.map [((st [77]),(vp 1405 0))] 1),
 (1352,.map [((st [73,78,84,69,71,69,82]),(vp 1361 0)),((st [66,79,79,76,69,65,78]),(vp 1365 0)),((st [67,72,65,82]),(vp 1369 0)),((st [66,89,84,69]),(vp 1373 0)),((st [83,69,84]),(vp 1377 0)),((st [65,66,83]),(vp 1380 0)),((st [79,68,68]),(vp 1381 0)),((st [79,82,68]),(vp 1382 0)),((st [67,72,82]),(vp 1383 0)),((st [76,83,76]),(vp 1384 0)),((st [65,83,82]),(vp 1385 0)),((st [76,69,78]),(vp 1386 0)),((st [73,78,67]),(vp 1387 0)),((st [68,69,67]),(vp 1388 0)),((st [78,69,87]),(vp 1389 0)),((st [65,83,83,69,82,84]),(vp 1390 0)),((st [72,65,76,84]),(vp 1391 0)),((st [79,76,68]),(vp 1392 0)),((st [70,82,69,83,72]),(vp 1393 0)),((st [69,79,70]),(vp 1394 0)),((st [76,69,78,71,84,72]),(vp 1395 0)),((st [82,69,65,68]),(vp 1396 0)),((st [87,82,73,84,69]),(vp 1397 0)),((st [82,69,65,68,87]),(vp 1398 0)),((st [87,82,73,84,69,87]),(vp 1399 0)),((st [83,69,69,75]),(vp 1400 0)),((st [82,69,71,73,83,84,69,82]),(vp 1401 0)),((st [68,69,76,69,84,69]),(vp 1402 0))] 28),
 (1353,bl 158 0 none [(vm 1352),vN,(.map none)]),
 (1354,.map [((vi 20),(.func (.func 115) #[] #[])),((vi 21),(.func (.func 116) #[] #[])),((vi 22),(.func (.func 117) #[] #[])),((vi 23),(.func (.func 118) #[] #[])),((vi 24),(.func (.func 119) #[] #[]))] 5),
 (1355,bl 138 0 none [(vp 404 0),(vi 999),v,(vi 0),(vi 0),(vi 0),vF,vF,(vm 1351),(vp 1353 0),(vm 1354)]),
 (1360,bl 217 0 none [(vi 1),(vi 0),vN,(.slice none 0 0),(.map none),(vi 4)]),
 (1361,bl 154 0 none [(vi 0),(vu 0),vN,(st []),(vp 1360 0),vN,vN,vN,vN,.nilFunc]),
 (1364,bl 217 0 none [(vi 2),(vi 0),vN,(.slice none 0 0),(.map none),(vi 1)]),
 (1365,bl 154 0 none [(vi 0),(vu 0),vN,(st []),(vp 1364 0),vN,vN,vN,vN,.nilFunc]),
 (1368,bl 217 0 none [(vi 3),(vi 0),vN,(.slice none 0 0),(.map none),(vi 1)]),
 (1369,bl 154 0 none [(vi 0),(vu 0),vN,(st []),(vp 1368 0),vN,vN,vN,vN,.nilFunc]),
 (1372,bl 217 0 none [(vi 4),(vi 0),vN,(.slice none 0 0),(.map none),(vi 1)]),
 (1373,bl 154 0 none [(vi 0),(vu 0),vN,(st []),(vp 1372 0),vN,vN,vN,vN,.nilFunc]),
 (1376,bl 217 0 none [(vi 5),(vi 0),vN,(.slice none 0 0),(.map none),(vi 4)]),
 (1377,bl 154 0 none [(vi 0),(vu 0),vN,(st []),(vp 1376 0),vN,vN,vN,vN,.nilFunc]),
 (1380,bl 154 0 none [(vi 0),(vu 0),vN,(st []),vN,vN,vN,vN,vN,(.func (.func 120) #[] #[])]),
 (1381,bl 154 0 none [(vi 0),(vu 0),vN,(st []),vN,vN,vN,vN,vN,(.func (.func 121) #[] #[])]),
 (1382,bl 154 0 none [(vi 0),(vu 0),vN,(st []),vN,vN,vN,vN,vN,(.func (.func 122) #[] #[])]),
 (1383,bl 154 0 none [(vi 0),(vu 0),vN,(st []),vN,vN,vN,vN,vN,(.func (.func 123) #[] #[])]),
 (1384,bl 154 0 none [(vi 0),(vu 0),vN,(st []),vN,vN,vN,vN,vN,(.func (.func 124) #[] #[])]),
 (1385,bl 154 0 none [(vi 0),(vu 0),vN,(st []),vN,vN,vN,vN,vN,(.func (.func 125) #[] #[])]),
 (1386,bl 154 0 none [(vi 0),(vu 0),vN,(st []),vN,vN,vN,vN,vN,(.func (.func 126) #[] #[])]),
 (1387,bl 154 0 none [(vi 0),(vu 0),vN,(st []),vN,vN,vN,vN,vN,(.func (.func 127) #[] #[])]),
 (1388,bl 154 0 none [(vi 0),(vu 0),vN,(st []),vN,vN,vN,vN,vN,(.func (.func 128) #[] #[])]),
 (1389,bl 154 0 none [(vi 0),(vu 0),vN,(st []),vN,vN,vN,vN,vN,(.func (.func 129) #[] #[])]),
 (1390,bl 154 0 none [(vi 0),(vu 0),vN,(st []),vN,vN,vN,vN,vN,(.func (.func 130) #[] #[])]),
 (1391,bl 154 0 none [(vi 0),(vu 0),vN,(st []),vN,vN,vN,vN,vN,(.func (.func 131) #[] #[])]),
 (1392,bl 154 0 none [(vi 0),(vu 0),vN,(st []),vN,vN,vN,vN,vN,(.func (.func 132) #[] #[])]),
 (1393,bl 154 0 none [(vi 0),(vu 0),vN,(st []),vN,vN,vN,vN,vN,(.func (.func 133) #[] #[])]),
 (1394,bl 154 0 none [(vi 0),(vu 0),vN,(st []),vN,vN,vN,vN,vN,(.func (.func 134) #[] #[])]),
 (1395,bl 154 0 none [(vi 0),(vu 0),vN,(st []),vN,vN,vN,vN,vN,(.func (.func 135) #[] #[])]),
 (1396,bl 154 0 none [(vi 0),(vu 0),vN,(st []),vN,vN,vN,vN,vN,(.func (.func 136) #[] #[])]),
 (1397,bl 154 0 none [(vi 0),(vu 0),vN,(st []),vN,vN,vN,vN,vN,(.func (.func 137) #[] #[])]),
 (1398,bl 154 0 none [(vi 0),(vu 0),vN,(st []),vN,vN,vN,vN,vN,(.func (.func 138) #[] #[])]),
 (1399,bl 154 0 none [(vi 0),(vu 0),vN,(st []),vN,vN,vN,vN,vN,(.func (.func 139) #[] #[])]),
 (1400,bl 154 0 none [(vi 0),(vu 0),vN,(st []),vN,vN,vN,vN,vN,(.func (.func 140) #[] #[])]),
 (1401,bl 154 0 none [(vi 0),(vu 0),vN,(st []),vN,vN,vN,vN,vN,(.func (.func 141) #[] #[])]),
 (1402,bl 154 0 none [(vi 0),(vu 0),vN,(st []),vN,vN,vN,vN,vN,(.func (.func 142) #[] #[])]),
 (1404,.map [((st [120]),(vp 1411 0))] 1),
 (1405,bl 158 0 none [(vm 1404),(vp 1353 0),(vm 1406)]),
 (1406,.pmap [] 0)]
def M12:MS:=⟨1421,preM12,1355,1405,fun p=>Nat.add 1380 p⟩
def preM21 (v:Value):List (Nat×AObj):=[(403,.map [] 0),
 (404,bl 81 0 none [(vm 403),(.slice none 0 0),(vi 10)]),
 (800,.map [((st [77]),(vp 854 0))] 1),
 (801,.map [((st [73,78,84,69,71,69,82]),(vp 810 0)),((st [66,79,79,76,69,65,78]),(vp 814 0)),((st [67,72,65,82]),(vp 818 0)),((st [66,89,84,69]),(vp 822 0)),((st [83,69,84]),(vp 826 0)),((st [65,66,83]),(vp 829 0)),((st [79,68,68]),(vp 830 0)),((st [79,82,68]),(vp 831 0)),((st [67,72,82]),(vp 832 0)),((st [76,83,76]),(vp 833 0)),((st [65,83,82]),(vp 834 0)),((st [76,69,78]),(vp 835 0)),((st [73,78,67]),(vp 836 0)),((st [68,69,67]),(vp 837 0)),((st [78,69,87]),(vp 838 0)),((st [65,83,83,69,82,84]),(vp 839 0)),((st [72,65,76,84]),(vp 840 0)),((st [79,76,68]),(vp 841 0)),((st [70,82,69,83,72]),(vp 842 0)),((st [69,79,70]),(vp 843 0)),((st [76,69,78,71,84,72]),(vp 844 0)),((st [82,69,65,68]),(vp 845 0)),((st [87,82,73,84,69]),(vp 846 0)),((st [82,69,65,68,87]),(vp 847 0)),((st [87,82,73,84,69,87]),(vp 848 0)),((st [83,69,69,75]),(vp 849 0)),((st [82,69,71,73,83,84,69,82]),(vp 850 0)),((st [68,69,76,69,84,69]),(vp 851 0))] 28),
 (802,bl 158 0 none [(vm 801),vN,(.map none)]),
 (803,.map [((vi 20),(.func (.func 115) #[] #[])),((vi 21),(.func (.func 116) #[] #[])),((vi 22),(.func (.func 117) #[] #[])),((vi 23),(.func (.func 118) #[] #[])),((vi 24),(.func (.func 119) #[] #[]))] 5),
 (804,bl 138 0 none [(vp 404 0),(vi 999),v,(vi 0),(vi 0),(vi 0),vF,vF,(vm 800),(vp 802 0),(vm 803)]),
 (809,bl 217 0 none [(vi 1),(vi 0),vN,(.slice none 0 0),(.map none),(vi 4)]),
 (810,bl 154 0 none [(vi 0),(vu 0),vN,(st []),(vp 809 0),vN,vN,vN,vN,.nilFunc]),
 (813,bl 217 0 none [(vi 2),(vi 0),vN,(.slice none 0 0),(.map none),(vi 1)]),
 (814,bl 154 0 none [(vi 0),(vu 0),vN,(st []),(vp 813 0),vN,vN,vN,vN,.nilFunc]),
 (817,bl 217 0 none [(vi 3),(vi 0),vN,(.slice none 0 0),(.map none),(vi 1)]),
 (818,bl 154 0 none [(vi 0),(vu 0),vN,(st []),(vp 817 0),vN,vN,vN,vN,.nilFunc]),
 (821,bl 217 0 none [(vi 4),(vi 0),vN,(.slice none 0 0),(.map none),(vi 1)]),
 (822,bl 154 0 none [(vi 0),(vu 0),vN,(st []),(vp 821 0),vN,vN,vN,vN,.nilFunc]),
 (825,bl 217 0 none [(vi 5),(vi 0),vN,(.slice none 0 0),(.map none),(vi 4)]),
 (826,bl 154 0 none [(vi 0),(vu 0),vN,(st []),(vp 825 0),vN,vN,vN,vN,.nilFunc]),
 (829,bl 154 0 none [(vi 0),(vu 0),vN,(st []),vN,vN,vN,vN,vN,(.func (.func 120) #[] #[])]),
 (830,bl 154 0 none [(vi 0),(vu 0),vN,(st []),vN,vN,vN,vN,vN,(.func (.func 121) #[] #[])]),
 (831,bl 154 0 none [(vi 0),(vu 0),vN,(st []),vN,vN,vN,vN,vN,(.func (.func 122) #[] #[])]),
 (832,bl 154 0 none [(vi 0),(vu 0),vN,(st []),vN,vN,vN,vN,vN,(.func (.func 123) #[] #[])]),
 (833,bl 154 0 none [(vi 0),(vu 0),vN,(st []),vN,vN,vN,vN,vN,(.func (.func 124) #[] #[])]),
 (834,bl 154 0 none [(vi 0),(vu 0),vN,(st []),vN,vN,vN,vN,vN,(.func (.func 125) #[] #[])]),
 (835,bl 154 0 none [(vi 0),(vu 0),vN,(st []),vN,vN,vN,vN,vN,(.func (.func 126) #[] #[])]),
 (836,bl 154 0 none [(vi 0),(vu 0),vN,(st []),vN,vN,vN,vN,vN,(.func (.func 127) #[] #[])]),
 (837,bl 154 0 none [(vi 0),(vu 0),vN,(st []),vN,vN,vN,vN,vN,(.func (.func 128) #[] #[])]),
 (838,bl 154 0 none [(vi 0),(vu 0),vN,(st []),vN,vN,vN,vN,vN,(.func (.func 129) #[] #[])]),
 (839,bl 154 0 none [(vi 0),(vu 0),vN,(st []),vN,vN,vN,vN,vN,(.func (.func 130) #[] #[])]),
 (840,bl 154 0 none [(vi 0),(vu 0),vN,(st []),vN,vN,vN,vN,vN,(.func (.func 131) #[] #[])]),
 (841,bl 154 0 none [(vi 0),(vu 0),vN,(st []),vN,vN,vN,vN,vN,(.func (.func 132) #[] #[])]),
 (842,bl 154 0 none [(vi 0),(vu 0),vN,(st []),vN,vN,vN,vN,vN,(.func (.func 133) #[] #[])]),
 (843,bl 154 0 none [(vi 0),(vu 0),vN,(st []),vN,vN,vN,vN,vN,(.func (.func 134) #[] #[])]),
 (844,bl 154 0 none [(vi 0),(vu 0),vN,(st []),vN,vN,vN,vN,vN,(.func (.func 135) #[] #[])]),
 (845,bl 154 0 none [(vi 0),(vu 0),vN,(st []),vN,vN,vN,vN,vN,(.func (.func 136) #[] #[])]),
 (846,bl 154 0 none [(vi 0),(vu 0),vN,(st []),vN,vN,vN,vN,vN,(.func (.func 137) #[] #[])]),
 (847,bl 154 0 none [(vi 0),(vu 0),vN,(st []),vN,vN,vN,vN,vN,(.func (.func 138) #[] #[])]),
 (848,bl 154 0 none [(vi 0),(vu 0),vN,(st []),vN,vN,vN,vN,vN,(.func (.func 139) #[] #[])]),
 (849,bl 154 0 none [(vi 0),(vu 0),vN,(st []),vN,vN,vN,vN,vN,(.func (.func 140) #[] #[])]),
 (850,bl 154 0 none [(vi 0),(vu 0),vN,(st []),vN,vN,vN,vN,vN,(.func (.func 141) #[] #[])]),
 (851,bl 154 0 none [(vi 0),(vu 0),vN,(st []),vN,vN,vN,vN,vN,(.func (.func 142) #[] #[])]),
 (853,.map [((st [120]),(vp 860 0))] 1),
 (854,bl 158 0 none [(vm 853),(vp 802 0),(vm 855)]),
 (855,.pmap [] 0)]
def M21:MS:=⟨877,preM21,804,854,fun p=>Nat.add 829 p⟩
def preM22 (v:Value):List (Nat×AObj):=[(403,.map [] 0),
 (404,bl 81 0 none [(vm 403),(.slice none 0 0),(vi 10)]),
 (1359,.map [((st [77]),(vp 1413 0))] 1),
 (1360,.map [((st [73,78,84,69,71,69,82]),(vp 1369 0)),((st [66,79,79,76,69,65,78]),(vp 1373 0)),((st [67,72,65,82]),(vp 1377 0)),((st [66,89,84,69]),(vp 1381 0)),((st [83,69,84]),(vp 1385 0)),((st [65,66,83]),(vp 1388 0)),((st [79,68,68]),(vp 1389 0)),((st [79,82,68]),(vp 1390 0)),((st [67,72,82]),(vp 1391 0)),((st [76,83,76]),(vp 1392 0)),((st [65,83,82]),(vp 1393 0)),((st [76,69,78]),(vp 1394 0)),((st [73,78,67]),(vp 1395 0)),((st [68,69,67]),(vp 1396 0)),((st [78,69,87]),(vp 1397 0)),((st [65,83,83,69,82,84]),(vp 1398 0)),((st [72,65,76,84]),(vp 1399 0)),((st [79,76,68]),(vp 1400 0)),((st [70,82,69,83,72]),(vp 1401 0)),((st [69,79,70]),(vp 1402 0)),((st [76,69,78,71,84,72]),(vp 1403 0)),((st [82,69,65,68]),(vp 1404 0)),((st [87,82,73,84,69]),(vp 1405 0)),((st [82,69,65,68,87]),(vp 1406 0)),((st [87,82,73,84,69,87]),(vp 1407 0)),((st [83,69,69,75]),(vp 1408 0)),((st [82,69,71,73,83,84,69,82]),(vp 1409 0)),((st [68,69,76,69,84,69]),(vp 1410 0))] 28),
 (1361,bl 158 0 none [(vm 1360),vN,(.map none)]),
 (1362,.map [((vi 20),(.func (.func 115) #[] #[])),((vi 21),(.func (.func 116) #[] #[])),((vi 22),(.func (.func 117) #[] #[])),((vi 23),(.func (.func 118) #[] #[])),((vi 24),(.func (.func 119) #[] #[]))] 5),
 (1363,bl 138 0 none [(vp 404 0),(vi 999),v,(vi 0),(vi 0),(vi 0),vF,vF,(vm 1359),(vp 1361 0),(vm 1362)]),
 (1368,bl 217 0 none [(vi 1),(vi 0),vN,(.slice none 0 0),(.map none),(vi 4)]),
 (1369,bl 154 0 none [(vi 0),(vu 0),vN,(st []),(vp 1368 0),vN,vN,vN,vN,.nilFunc]),
 (1372,bl 217 0 none [(vi 2),(vi 0),vN,(.slice none 0 0),(.map none),(vi 1)]),
 (1373,bl 154 0 none [(vi 0),(vu 0),vN,(st []),(vp 1372 0),vN,vN,vN,vN,.nilFunc]),
 (1376,bl 217 0 none [(vi 3),(vi 0),vN,(.slice none 0 0),(.map none),(vi 1)]),
 (1377,bl 154 0 none [(vi 0),(vu 0),vN,(st []),(vp 1376 0),vN,vN,vN,vN,.nilFunc]),
 (1380,bl 217 0 none [(vi 4),(vi 0),vN,(.slice none 0 0),(.map none),(vi 1)]),
 (1381,bl 154 0 none [(vi 0),(vu 0),vN,(st []),(vp 1380 0),vN,vN,vN,vN,.nilFunc]),
 (1384,bl 217 0 none [(vi 5),(vi 0),vN,(.slice none 0 0),(.map none),(vi 4)]),
 (1385,bl 154 0 none [(vi 0),(vu 0),vN,(st []),(vp 1384 0),vN,vN,vN,vN,.nilFunc]),
 (1388,bl 154 0 none [(vi 0),(vu 0),vN,(st []),vN,vN,vN,vN,vN,(.func (.func 120) #[] #[])]),
 (1389,bl 154 0 none [(vi 0),(vu 0),vN,(st []),vN,vN,vN,vN,vN,(.func (.func 121) #[] #[])]),
 (1390,bl 154 0 none [(vi 0),(vu 0),vN,(st []),vN,vN,vN,vN,vN,(.func (.func 122) #[] #[])]),
 (1391,bl 154 0 none [(vi 0),(vu 0),vN,(st []),vN,vN,vN,vN,vN,(.func (.func 123) #[] #[])]),
 (1392,bl 154 0 none [(vi 0),(vu 0),vN,(st []),vN,vN,vN,vN,vN,(.func (.func 124) #[] #[])]),
 (1393,bl 154 0 none [(vi 0),(vu 0),vN,(st []),vN,vN,vN,vN,vN,(.func (.func 125) #[] #[])]),
 (1394,bl 154 0 none [(vi 0),(vu 0),vN,(st []),vN,vN,vN,vN,vN,(.func (.func 126) #[] #[])]),
 (1395,bl 154 0 none [(vi 0),(vu 0),vN,(st []),vN,vN,vN,vN,vN,(.func (.func 127) #[] #[])]),
 (1396,bl 154 0 none [(vi 0),(vu 0),vN,(st []),vN,vN,vN,vN,vN,(.func (.func 128) #[] #[])]),
 (1397,bl 154 0 none [(vi 0),(vu 0),vN,(st []),vN,vN,vN,vN,vN,(.func (.func 129) #[] #[])]),
 (1398,bl 154 0 none [(vi 0),(vu 0),vN,(st []),vN,vN,vN,vN,vN,(.func (.func 130) #[] #[])]),
 (1399,bl 154 0 none [(vi 0),(vu 0),vN,(st []),vN,vN,vN,vN,vN,(.func (.func 131) #[] #[])]),
 (1400,bl 154 0 none [(vi 0),(vu 0),vN,(st []),vN,vN,vN,vN,vN,(.func (.func 132) #[] #[])]),
 (1401,bl 154 0 none [(vi 0),(vu 0),vN,(st []),vN,vN,vN,vN,vN,(.func (.func 133) #[] #[])]),
 (1402,bl 154 0 none [(vi 0),(vu 0),vN,(st []),vN,vN,vN,vN,vN,(.func (.func 134) #[] #[])]),
 (1403,bl 154 0 none [(vi 0),(vu 0),vN,(st []),vN,vN,vN,vN,vN,(.func (.func 135) #[] #[])]),
 (1404,bl 154 0 none [(vi 0),(vu 0),vN,(st []),vN,vN,vN,vN,vN,(.func (.func 136) #[] #[])]),
 (1405,bl 154 0 none [(vi 0),(vu 0),vN,(st []),vN,vN,vN,vN,vN,(.func (.func 137) #[] #[])]),
 (1406,bl 154 0 none [(vi 0),(vu 0),vN,(st []),vN,vN,vN,vN,vN,(.func (.func 138) #[] #[])]),
 (1407,bl 154 0 none [(vi 0),(vu 0),vN,(st []),vN,vN,vN,vN,vN,(.func (.func 139) #[] #[])]),
 (1408,bl 154 0 none [(vi 0),(vu 0),vN,(st []),vN,vN,vN,vN,vN,(.func (.func 140) #[] #[])]),
 (1409,bl 154 0 none [(vi 0),(vu 0),vN,(st []),vN,vN,vN,vN,vN,(.func (.func 141) #[] #[])]),
 (1410,bl 154 0 none [(vi 0),(vu 0),vN,(st []),vN,vN,vN,vN,vN,(.func (.func 142) #[] #[])]),
 (1412,.map [((st [120]),(vp 1419 0))] 1),
 (1413,bl 158 0 none [(vm 1412),(vp 1361 0),(vm 1414)]),
 (1414,.pmap [] 0)]
def M22:MS:=⟨1429,preM22,1363,1413,fun p=>Nat.add 1388 p⟩
def preM31 (v:Value):List (Nat×AObj):=[(403,.map [] 0),
 (404,bl 81 0 none [(vm 403),(.slice none 0 0),(vi 10)]),
 (798,.map [((st [77]),(vp 852 0))] 1),
 (799,.map [((st [73,78,84,69,71,69,82]),(vp 808 0)),((st [66,79,79,76,69,65,78]),(vp 812 0)),((st [67,72,65,82]),(vp 816 0)),((st [66,89,84,69]),(vp 820 0)),((st [83,69,84]),(vp 824 0)),((st [65,66,83]),(vp 827 0)),((st [79,68,68]),(vp 828 0)),((st [79,82,68]),(vp 829 0)),((st [67,72,82]),(vp 830 0)),((st [76,83,76]),(vp 831 0)),((st [65,83,82]),(vp 832 0)),((st [76,69,78]),(vp 833 0)),((st [73,78,67]),(vp 834 0)),((st [68,69,67]),(vp 835 0)),((st [78,69,87]),(vp 836 0)),((st [65,83,83,69,82,84]),(vp 837 0)),((st [72,65,76,84]),(vp 838 0)),((st [79,76,68]),(vp 839 0)),((st [70,82,69,83,72]),(vp 840 0)),((st [69,79,70]),(vp 841 0)),((st [76,69,78,71,84,72]),(vp 842 0)),((st [82,69,65,68]),(vp 843 0)),((st [87,82,73,84,69]),(vp 844 0)),((st [82,69,65,68,87]),(vp 845 0)),((st [87,82,73,84,69,87]),(vp 846 0)),((st [83,69,69,75]),(vp 847 0)),((st [82,69,71,73,83,84,69,82]),(vp 848 0)),((st [68,69,76,69,84,69]),(vp 849 0))] 28),
 (800,bl 158 0 none [(vm 799),vN,(.map none)]),
 (801,.map [((vi 20),(.func (.func 115) #[] #[])),((vi 21),(.func (.func 116) #[] #[])),((vi 22),(.func (.func 117) #[] #[])),((vi 23),(.func (.func 118) #[] #[])),((vi 24),(.func (.func 119) #[] #[]))] 5),
 (802,bl 138 0 none [(vp 404 0),(vi 999),v,(vi 0),(vi 0),(vi 0),vF,vF,(vm 798),(vp 800 0),(vm 801)]),
 (807,bl 217 0 none [(vi 1),(vi 0),vN,(.slice none 0 0),(.map none),(vi 4)]),
 (808,bl 154 0 none [(vi 0),(vu 0),vN,(st []),(vp 807 0),vN,vN,vN,vN,.nilFunc]),
 (811,bl 217 0 none [(vi 2),(vi 0),vN,(.slice none 0 0),(.map none),(vi 1)]),
 (812,bl 154 0 none [(vi 0),(vu 0),vN,(st []),(vp 811 0),vN,vN,vN,vN,.nilFunc]),
 (815,bl 217 0 none [(vi 3),(vi 0),vN,(.slice none 0 0),(.map none),(vi 1)]),
 (816,bl 154 0 none [(vi 0),(vu 0),vN,(st []),(vp 815 0),vN,vN,vN,vN,.nilFunc]),
 (819,bl 217 0 none [(vi 4),(vi 0),vN,(.slice none 0 0),(.map none),(vi 1)]),
 (820,bl 154 0 none [(vi 0),(vu 0),vN,(st []),(vp 819 0),vN,vN,vN,vN,.nilFunc]),
 (823,bl 217 0 none [(vi 5),(vi 0),vN,(.slice none 0 0),(.map none),(vi 4)]),
 (824,bl 154 0 none [(vi 0),(vu 0),vN,(st []),(vp 823 0),vN,vN,vN,vN,.nilFunc]),
 (827,bl 154 0 none [(vi 0),(vu 0),vN,(st []),vN,vN,vN,vN,vN,(.func (.func 120) #[] #[])]),
 (828,bl 154 0 none [(vi 0),(vu 0),vN,(st []),vN,vN,vN,vN,vN,(.func (.func 121) #[] #[])]),
 (829,bl 154 0 none [(vi 0),(vu 0),vN,(st []),vN,vN,vN,vN,vN,(.func (.func 122) #[] #[])]),
 (830,bl 154 0 none [(vi 0),(vu 0),vN,(st []),vN,vN,vN,vN,vN,(.func (.func 123) #[] #[])]),
 (831,bl 154 0 none [(vi 0),(vu 0),vN,(st []),vN,vN,vN,vN,vN,(.func (.func 124) #[] #[])]),
 (832,bl 154 0 none [(vi 0),(vu 0),vN,(st []),vN,vN,vN,vN,vN,(.func (.func 125) #[] #[])]),
 (833,bl 154 0 none [(vi 0),(vu 0),vN,(st []),vN,vN,vN,vN,vN,(.func (.func 126) #[] #[])]),
 (834,bl 154 0 none [(vi 0),(vu 0),vN,(st []),vN,vN,vN,vN,vN,(.func (.func 127) #[] #[])]),
 (835,bl 154 0 none [(vi 0),(vu 0),vN,(st []),vN,vN,vN,vN,vN,(.func (.func 128) #[] #[])]),
 (836,bl 154 0 none [(vi 0),(vu 0),vN,(st []),vN,vN,vN,vN,vN,(.func (.func 129) #[] #[])]),
 (837,bl 154 0 none [(vi 0),(vu 0),vN,(st []),vN,vN,vN,vN,vN,(.func (.func 130) #[] #[])]),
 (838,bl 154 0 none [(vi 0),(vu 0),vN,(st []),vN,vN,vN,vN,vN,(.func (.func 131) #[] #[])]),
 (839,bl 154 0 none [(vi 0),(vu 0),vN,(st []),vN,vN,vN,vN,vN,(.func (.func 132) #[] #[])]),
 (840,bl 154 0 none [(vi 0),(vu 0),vN,(st []),vN,vN,vN,vN,vN,(.func (.func 133) #[] #[])]),
 (841,bl 154 0 none [(vi 0),(vu 0),vN,(st []),vN,vN,vN,vN,vN,(.func (.func 134) #[] #[])]),
 (842,bl 154 0 none [(vi 0),(vu 0),vN,(st []),vN,vN,vN,vN,vN,(.func (.func 135) #[] #[])]),
 (843,bl 154 0 none [(vi 0),(vu 0),vN,(st []),vN,vN,vN,vN,vN,(.func (.func 136) #[] #[])]),
 (844,bl 154 0 none [(vi 0),(vu 0),vN,(st []),vN,vN,vN,vN,vN,(.func (.func 137) #[] #[])]),
 (845,bl 154 0 none [(vi 0),(vu 0),vN,(st []),vN,vN,vN,vN,vN,(.func (.func 138) #[] #[])]),
 (846,bl 154 0 none [(vi 0),(vu 0),vN,(st []),vN,vN,vN,vN,vN,(.func (.func 139) #[] #[])]),
 (847,bl 154 0 none [(vi 0),(vu 0),vN,(st []),vN,vN,vN,vN,vN,(.func (.func 140) #[] #[])]),
 (848,bl 154 0 none [(vi 0),(vu 0),vN,(st []),vN,vN,vN,vN,vN,(.func (.func 141) #[] #[])]),
 (849,bl 154 0 none [(vi 0),(vu 0),vN,(st []),vN,vN,vN,vN,vN,(.func (.func 142) #[] #[])]),
 (851,.map [((st [120]),(vp 858 0))] 1),
 (852,bl 158 0 none [(vm 851),(vp 800 0),(vm 853)]),
 (853,.pmap [] 0)]
def M31:MS:=⟨875,preM31,802,852,fun p=>Nat.add 827 p⟩
def preM32 (v:Value):List (Nat×AObj):=[(403,.map [] 0),
 (404,bl 81 0 none [(vm 403),(.slice none 0 0),(vi 10)]),
 (1355,.map [((st [77]),(vp 1409 0))] 1),
 (1356,.map [((st [73,78,84,69,71,69,82]),(vp 1365 0)),((st [66,79,79,76,69,65,78]),(vp 1369 0)),((st [67,72,65,82]),(vp 1373 0)),((st [66,89,84,69]),(vp 1377 0)),((st [83,69,84]),(vp 1381 0)),((st [65,66,83]),(vp 1384 0)),((st [79,68,68]),(vp 1385 0)),((st [79,82,68]),(vp 1386 0)),((st [67,72,82]),(vp 1387 0)),((st [76,83,76]),(vp 1388 0)),((st [65,83,82]),(vp 1389 0)),((st [76,69,78]),(vp 1390 0)),((st [73,78,67]),(vp 1391 0)),((st [68,69,67]),(vp 1392 0)),((st [78,69,87]),(vp 1393 0)),((st [65,83,83,69,82,84]),(vp 1394 0)),((st [72,65,76,84]),(vp 1395 0)),((st [79,76,68]),(vp 1396 0)),((st [70,82,69,83,72]),(vp 1397 0)),((st [69,79,70]),(vp 1398 0)),((st [76,69,78,71,84,72]),(vp 1399 0)),((st [82,69,65,68]),(vp 1400 0)),((st [87,82,73,84,69]),(vp 1401 0)),((st [82,69,65,68,87]),(vp 1402 0)),((st [87,82,73,84,69,87]),(vp 1403 0)),((st [83,69,69,75]),(vp 1404 0)),((st [82,69,71,73,83,84,69,82]),(vp 1405 0)),((st [68,69,76,69,84,69]),(vp 1406 0))] 28),
 (1357,bl 158 0 none [(vm 1356),vN,(.map none)]),
 (1358,.map [((vi 20),(.func (.func 115) #[] #[])),((vi 21),(.func (.func 116) #[] #[])),((vi 22),(.func (.func 117) #[] #[])),((vi 23),(.func (.func 118) #[] #[])),((vi 24),(.func (.func 119) #[] #[]))] 5),
 (1359,bl 138 0 none [(vp 404 0),(vi 999),v,(vi 0),(vi 0),(vi 0),vF,vF,(vm 1355),(vp 1357 0),(vm 1358)]),
 (1364,bl 217 0 none [(vi 1),(vi 0),vN,(.slice none 0 0),(.map none),(vi 4)]),
 (1365,bl 154 0 none [(vi 0),(vu 0),vN,(st []),(vp 1364 0),vN,vN,vN,vN,.nilFunc]),
 (1368,bl 217 0 none [(vi 2),(vi 0),vN,(.slice none 0 0),(.map none),(vi 1)]),
 (1369,bl 154 0 none [(vi 0),(vu 0),vN,(st []),(vp 1368 0),vN,vN,vN,vN,.nilFunc]),
 (1372,bl 217 0 none [(vi 3),(vi 0),vN,(.slice none 0 0),(.map none),(vi 1)]),
 (1373,bl 154 0 none [(vi 0),(vu 0),vN,(st []),(vp 1372 0),vN,vN,vN,vN,.nilFunc]),
 (1376,bl 217 0 none [(vi 4),(vi 0),vN,(.slice none 0 0),(.map none),(vi 1)]),
 (1377,bl 154 0 none [(vi 0),(vu 0),vN,(st []),(vp 1376 0),vN,vN,vN,vN,.nilFunc]),
 (1380,bl 217 0 none [(vi 5),(vi 0),vN,(.slice none 0 0),(.map none),(vi 4)]),
 (1381,bl 154 0 none [(vi 0),(vu 0),vN,(st []),(vp 1380 0),vN,vN,vN,vN,.nilFunc]),
 (1384,bl 154 0 none [(vi 0),(vu 0),vN,(st []),vN,vN,vN,vN,vN,(.func (.func 120) #[] #[])]),
 (1385,bl 154 0 none [(vi 0),(vu 0),vN,(st []),vN,vN,vN,vN,vN,(.func (.func 121) #[] #[])]),
 (1386,bl 154 0 none [(vi 0),(vu 0),vN,(st []),vN,vN,vN,vN,vN,(.func (.func 122) #[] #[])]),
 (1387,bl 154 0 none [(vi 0),(vu 0),vN,(st []),vN,vN,vN,vN,vN,(.func (.func 123) #[] #[])]),
 (1388,bl 154 0 none [(vi 0),(vu 0),vN,(st []),vN,vN,vN,vN,vN,(.func (.func 124) #[] #[])]),
 (1389,bl 154 0 none [(vi 0),(vu 0),vN,(st []),vN,vN,vN,vN,vN,(.func (.func 125) #[] #[])]),
 (1390,bl 154 0 none [(vi 0),(vu 0),vN,(st []),vN,vN,vN,vN,vN,(.func (.func 126) #[] #[])]),
 (1391,bl 154 0 none [(vi 0),(vu 0),vN,(st []),vN,vN,vN,vN,vN,(.func (.func 127) #[] #[])]),
 (1392,bl 154 0 none [(vi 0),(vu 0),vN,(st []),vN,vN,vN,vN,vN,(.func (.func 128) #[] #[])]),
 (1393,bl 154 0 none [(vi 0),(vu 0),vN,(st []),vN,vN,vN,vN,vN,(.func (.func 129) #[] #[])]),
 (1394,bl 154 0 none [(vi 0),(vu 0),vN,(st []),vN,vN,vN,vN,vN,(.func (.func 130) #[] #[])]),
 (1395,bl 154 0 none [(vi 0),(vu 0),vN,(st []),vN,vN,vN,vN,vN,(.func (.func 131) #[] #[])]),
 (1396,bl 154 0 none [(vi 0),(vu 0),vN,(st []),vN,vN,vN,vN,vN,(.func (.func 132) #[] #[])]),
 (1397,bl 154 0 none [(vi 0),(vu 0),vN,(st []),vN,vN,vN,vN,vN,(.func (.func 133) #[] #[])]),
 (1398,bl 154 0 none [(vi 0),(vu 0),vN,(st []),vN,vN,vN,vN,vN,(.func (.func 134) #[] #[])]),
 (1399,bl 154 0 none [(vi 0),(vu 0),vN,(st []),vN,vN,vN,vN,vN,(.func (.func 135) #[] #[])]),
 (1400,bl 154 0 none [(vi 0),(vu 0),vN,(st []),vN,vN,vN,vN,vN,(.func (.func 136) #[] #[])]),
 (1401,bl 154 0 none [(vi 0),(vu 0),vN,(st []),vN,vN,vN,vN,vN,(.func (.func 137) #[] #[])]),
 (1402,bl 154 0 none [(vi 0),(vu 0),vN,(st []),vN,vN,vN,vN,vN,(.func (.func 138) #[] #[])]),
 (1403,bl 154 0 none [(vi 0),(vu 0),vN,(st []),vN,vN,vN,vN,vN,(.func (.func 139) #[] #[])]),
 (1404,bl 154 0 none [(vi 0),(vu 0),vN,(st []),vN,vN,vN,vN,vN,(.func (.func 140) #[] #[])]),
 (1405,bl 154 0 none [(vi 0),(vu 0),vN,(st []),vN,vN,vN,vN,vN,(.func (.func 141) #[] #[])]),
 (1406,bl 154 0 none [(vi 0),(vu 0),vN,(st []),vN,vN,vN,vN,vN,(.func (.func 142) #[] #[])]),
 (1408,.map [((st [120]),(vp 1415 0))] 1),
 (1409,bl 158 0 none [(vm 1408),(vp 1357 0),(vm 1410)]),
 (1410,.pmap [] 0)]
def M32:MS:=⟨1425,preM32,1359,1409,fun p=>Nat.add 1384 p⟩
def preM51 (v:Value):List (Nat×AObj):=[(403,.map [] 0),
 (404,bl 81 0 none [(vm 403),(.slice none 0 0),(vi 10)]),
 (801,.map [((st [77]),(vp 855 0))] 1),
 (802,.map [((st [73,78,84,69,71,69,82]),(vp 811 0)),((st [66,79,79,76,69,65,78]),(vp 815 0)),((st [67,72,65,82]),(vp 819 0)),((st [66,89,84,69]),(vp 823 0)),((st [83,69,84]),(vp 827 0)),((st [65,66,83]),(vp 830 0)),((st [79,68,68]),(vp 831 0)),((st [79,82,68]),(vp 832 0)),((st [67,72,82]),(vp 833 0)),((st [76,83,76]),(vp 834 0)),((st [65,83,82]),(vp 835 0)),((st [76,69,78]),(vp 836 0)),((st [73,78,67]),(vp 837 0)),((st [68,69,67]),(vp 838 0)),((st [78,69,87]),(vp 839 0)),((st [65,83,83,69,82,84]),(vp 840 0)),((st [72,65,76,84]),(vp 841 0)),((st [79,76,68]),(vp 842 0)),((st [70,82,69,83,72]),(vp 843 0)),((st [69,79,70]),(vp 844 0)),((st [76,69,78,71,84,72]),(vp 845 0)),((st [82,69,65,68]),(vp 846 0)),((st [87,82,73,84,69]),(vp 847 0)),((st [82,69,65,68,87]),(vp 848 0)),((st [87,82,73,84,69,87]),(vp 849 0)),((st [83,69,69,75]),(vp 850 0)),((st [82,69,71,73,83,84,69,82]),(vp 851 0)),((st [68,69,76,69,84,69]),(vp 852 0))] 28),
 (803,bl 158 0 none [(vm 802),vN,(.map none)]),
 (804,.map [((vi 20),(.func (.func 115) #[] #[])),((vi 21),(.func (.func 116) #[] #[])),((vi 22),(.func (.func 117) #[] #[])),((vi 23),(.func (.func 118) #[] #[])),((vi 24),(.func (.func 119) #[] #[]))] 5),
 (805,bl 138 0 none [(vp 404 0),(vi 999),v,(vi 0),(vi 0),(vi 0),vF,vF,(vm 801),(vp 803 0),(vm 804)]),
 (810,bl 217 0 none [(vi 1),(vi 0),vN,(.slice none 0 0),(.map none),(vi 4)]),
 (811,bl 154 0 none [(vi 0),(vu 0),vN,(st []),(vp 810 0),vN,vN,vN,vN,.nilFunc]),
 (814,bl 217 0 none [(vi 2),(vi 0),vN,(.slice none 0 0),(.map none),(vi 1)]),
 (815,bl 154 0 none [(vi 0),(vu 0),vN,(st []),(vp 814 0),vN,vN,vN,vN,.nilFunc]),
 (818,bl 217 0 none [(vi 3),(vi 0),vN,(.slice none 0 0),(.map none),(vi 1)]),
 (819,bl 154 0 none [(vi 0),(vu 0),vN,(st []),(vp 818 0),vN,vN,vN,vN,.nilFunc]),
 (822,bl 217 0 none [(vi 4),(vi 0),vN,(.slice none 0 0),(.map none),(vi 1)]),
 (823,bl 154 0 none [(vi 0),(vu 0),vN,(st []),(vp 822 0),vN,vN,vN,vN,.nilFunc]),
 (826,bl 217 0 none [(vi 5),(vi 0),vN,(.slice none 0 0),(.map none),(vi 4)]),
 (827,bl 154 0 none [(vi 0),(vu 0),vN,(st []),(vp 826 0),vN,vN,vN,vN,.nilFunc]),
 (830,bl 154 0 none [(vi 0),(vu 0),vN,(st []),vN,vN,vN,vN,vN,(.func (.func 120) #[] #[])]),
 (831,bl 154 0 none [(vi 0),(vu 0),vN,(st []),vN,vN,vN,vN,vN,(.func (.func 121) #[] #[])]),
 (832,bl 154 0 none [(vi 0),(vu 0),vN,(st []),vN,vN,vN,vN,vN,(.func (.func 122) #[] #[])]),
 (833,bl 154 0 none [(vi 0),(vu 0),vN,(st []),vN,vN,vN,vN,vN,(.func (.func 123) #[] #[])]),
 (834,bl 154 0 none [(vi 0),(vu 0),vN,(st []),vN,vN,vN,vN,vN,(.func (.func 124) #[] #[])]),
 (835,bl 154 0 none [(vi 0),(vu 0),vN,(st []),vN,vN,vN,vN,vN,(.func (.func 125) #[] #[])]),
 (836,bl 154 0 none [(vi 0),(vu 0),vN,(st []),vN,vN,vN,vN,vN,(.func (.func 126) #[] #[])]),
 (837,bl 154 0 none [(vi 0),(vu 0),vN,(st []),vN,vN,vN,vN,vN,(.func (.func 127) #[] #[])]),
 (838,bl 154 0 none [(vi 0),(vu 0),vN,(st []),vN,vN,vN,vN,vN,(.func (.func 128) #[] #[])]),
 (839,bl 154 0 none [(vi 0),(vu 0),vN,(st []),vN,vN,vN,vN,vN,(.func (.func 129) #[] #[])]),
 (840,bl 154 0 none [(vi 0),(vu 0),vN,(st []),vN,vN,vN,vN,vN,(.func (.func 130) #[] #[])]),
 (841,bl 154 0 none [(vi 0),(vu 0),vN,(st []),vN,vN,vN,vN,vN,(.func (.func 131) #[] #[])]),
 (842,bl 154 0 none [(vi 0),(vu 0),vN,(st []),vN,vN,vN,vN,vN,(.func (.func 132) #[] #[])]),
 (843,bl 154 0 none [(vi 0),(vu 0),vN,(st []),vN,vN,vN,vN,vN,(.func (.func 133) #[] #[])]),
 (844,bl 154 0 none [(vi 0),(vu 0),vN,(st []),vN,vN,vN,vN,vN,(.func (.func 134) #[] #[])]),
 (845,bl 154 0 none [(vi 0),(vu 0),vN,(st []),vN,vN,vN,vN,vN,(.func (.func 135) #[] #[])]),
 (846,bl 154 0 none [(vi 0),(vu 0),vN,(st []),vN,vN,vN,vN,vN,(.func (.func 136) #[] #[])]),
 (847,bl 154 0 none [(vi 0),(vu 0),vN,(st []),vN,vN,vN,vN,vN,(.func (.func 137) #[] #[])]),
 (848,bl 154 0 none [(vi 0),(vu 0),vN,(st []),vN,vN,vN,vN,vN,(.func (.func 138) #[] #[])]),
 (849,bl 154 0 none [(vi 0),(vu 0),vN,(st []),vN,vN,vN,vN,vN,(.func (.func 139) #[] #[])]),
 (850,bl 154 0 none [(vi 0),(vu 0),vN,(st []),vN,vN,vN,vN,vN,(.func (.func 140) #[] #[])]),
 (851,bl 154 0 none [(vi 0),(vu 0),vN,(st []),vN,vN,vN,vN,vN,(.func (.func 141) #[] #[])]),
 (852,bl 154 0 none [(vi 0),(vu 0),vN,(st []),vN,vN,vN,vN,vN,(.func (.func 142) #[] #[])]),
 (854,.map [((st [120]),(vp 861 0))] 1),
 (855,bl 158 0 none [(vm 854),(vp 803 0),(vm 856)]),
 (856,.pmap [] 0)]
def M51:MS:=⟨878,preM51,805,855,fun p=>Nat.add 830 p⟩
def preM52 (v:Value):List (Nat×AObj):=[(403,.map [] 0),
 (404,bl 81 0 none [(vm 403),(.slice none 0 0),(vi 10)]),
 (1361,.map [((st [77]),(vp 1415 0))] 1),
 (1362,.map [((st [73,78,84,69,71,69,82]),(vp 1371 0)),((st [66,79,79,76,69,65,78]),(vp 1375 0)),((st [67,72,65,82]),(vp 1379 0)),((st [66,89,84,69]),(vp 1383 0)),((st [83,69,84]),(vp 1387 0)),((st [65,66,83]),(vp 1390 0)),((st [79,68,68]),(vp 1391 0)),((st [79,82,68]),(vp 1392 0)),((st [67,72,82]),(vp 1393 0)),((st [76,83,76]),(vp 1394 0)),((st [65,83,82]),(vp 1395 0)),((st [76,69,78]),(vp 1396 0)),((st [73,78,67]),(vp 1397 0)),((st [68,69,67]),(vp 1398 0)),((st [78,69,87]),(vp 1399 0)),((st [65,83,83,69,82,84]),(vp 1400 0)),((st [72,65,76,84]),(vp 1401 0)),((st [79,76,68]),(vp 1402 0)),((st [70,82,69,83,72]),(vp 1403 0)),((st [69,79,70]),(vp 1404 0)),((st [76,69,78,71,84,72]),(vp 1405 0)),((st [82,69,65,68]),(vp 1406 0)),((st [87,82,73,84,69]),(vp 1407 0)),((st [82,69,65,68,87]),(vp 1408 0)),((st [87,82,73,84,69,87]),(vp 1409 0)),((st [83,69,69,75]),(vp 1410 0)),((st [82,69,71,73,83,84,69,82]),(vp 1411 0)),((st [68,69,76,69,84,69]),(vp 1412 0))] 28),
 (1363,bl 158 0 none [(vm 1362),vN,(.map none)]),
 (1364,.map [((vi 20),(.func (.func 115) #[] #[])),((vi 21),(.func (.func 116) #[] #[])),((vi 22),(.func (.func 117) #[] #[])),((vi 23),(.func (.func 118) #[] #[])),((vi 24),(.func (.func 119) #[] #[]))] 5),
 (1365,bl 138 0 none [(vp 404 0),(vi 999),v,(vi 0),(vi 0),(vi 0),vF,vF,(vm 1361),(vp 1363 0),(vm 1364)]),
 (1370,bl 217 0 none [(vi 1),(vi 0),vN,(.slice none 0 0),(.map none),(vi 4)]),
 (1371,bl 154 0 none [(vi 0),(vu 0),vN,(st []),(vp 1370 0),vN,vN,vN,vN,.nilFunc]),
 (1374,bl 217 0 none [(vi 2),(vi 0),vN,(.slice none 0 0),(.map none),(vi 1)]),
 (1375,bl 154 0 none [(vi 0),(vu 0),vN,(st []),(vp 1374 0),vN,vN,vN,vN,.nilFunc]),
 (1378,bl 217 0 none [(vi 3),(vi 0),vN,(.slice none 0 0),(.map none),(vi 1)]),
 (1379,bl 154 0 none [(vi 0),(vu 0),vN,(st []),(vp 1378 0),vN,vN,vN,vN,.nilFunc]),
 (1382,bl 217 0 none [(vi 4),(vi 0),vN,(.slice none 0 0),(.map none),(vi 1)]),
 (1383,bl 154 0 none [(vi 0),(vu 0),vN,(st []),(vp 1382 0),vN,vN,vN,vN,.nilFunc]),
 (1386,bl 217 0 none [(vi 5),(vi 0),vN,(.slice none 0 0),(.map none),(vi 4)]),
 (1387,bl 154 0 none [(vi 0),(vu 0),vN,(st []),(vp 1386 0),vN,vN,vN,vN,.nilFunc]),
 (1390,bl 154 0 none [(vi 0),(vu 0),vN,(st []),vN,vN,vN,vN,vN,(.func (.func 120) #[] #[])]),
 (1391,bl 154 0 none [(vi 0),(vu 0),vN,(st []),vN,vN,vN,vN,vN,(.func (.func 121) #[] #[])]),
 (1392,bl 154 0 none [(vi 0),(vu 0),vN,(st []),vN,vN,vN,vN,vN,(.func (.func 122) #[] #[])]),
 (1393,bl 154 0 none [(vi 0),(vu 0),vN,(st []),vN,vN,vN,vN,vN,(.func (.func 123) #[] #[])]),
 (1394,bl 154 0 none [(vi 0),(vu 0),vN,(st []),vN,vN,vN,vN,vN,(.func (.func 124) #[] #[])]),
 (1395,bl 154 0 none [(vi 0),(vu 0),vN,(st []),vN,vN,vN,vN,vN,(.func (.func 125) #[] #[])]),
 (1396,bl 154 0 none [(vi 0),(vu 0),vN,(st []),vN,vN,vN,vN,vN,(.func (.func 126) #[] #[])]),
 (1397,bl 154 0 none [(vi 0),(vu 0),vN,(st []),vN,vN,vN,vN,vN,(.func (.func 127) #[] #[])]),
 (1398,bl 154 0 none [(vi 0),(vu 0),vN,(st []),vN,vN,vN,vN,vN,(.func (.func 128) #[] #[])]),
 (1399,bl 154 0 none [(vi 0),(vu 0),vN,(st []),vN,vN,vN,vN,vN,(.func (.func 129) #[] #[])]),
 (1400,bl 154 0 none [(vi 0),(vu 0),vN,(st []),vN,vN,vN,vN,vN,(.func (.func 130) #[] #[])]),
 (1401,bl 154 0 none [(vi 0),(vu 0),vN,(st []),vN,vN,vN,vN,vN,(.func (.func 131) #[] #[])]),
 (1402,bl 154 0 none [(vi 0),(vu 0),vN,(st []),vN,vN,vN,vN,vN,(.func (.func 132) #[] #[])]),
 (1403,bl 154 0 none [(vi 0),(vu 0),vN,(st []),vN,vN,vN,vN,vN,(.func (.func 133) #[] #[])]),
 (1404,bl 154 0 none [(vi 0),(vu 0),vN,(st []),vN,vN,vN,vN,vN,(.func (.func 134) #[] #[])]),
 (1405,bl 154 0 none [(vi 0),(vu 0),vN,(st []),vN,vN,vN,vN,vN,(.func (.func 135) #[] #[])]),
 (1406,bl 154 0 none [(vi 0),(vu 0),vN,(st []),vN,vN,vN,vN,vN,(.func (.func 136) #[] #[])]),
 (1407,bl 154 0 none [(vi 0),(vu 0),vN,(st []),vN,vN,vN,vN,vN,(.func (.func 137) #[] #[])]),
 (1408,bl 154 0 none [(vi 0),(vu 0),vN,(st []),vN,vN,vN,vN,vN,(.func (.func 138) #[] #[])]),
 (1409,bl 154 0 none [(vi 0),(vu 0),vN,(st []),vN,vN,vN,vN,vN,(.func (.func 139) #[] #[])]),
 (1410,bl 154 0 none [(vi 0),(vu 0),vN,(st []),vN,vN,vN,vN,vN,(.func (.func 140) #[] #[])]),
 (1411,bl 154 0 none [(vi 0),(vu 0),vN,(st []),vN,vN,vN,vN,vN,(.func (.func 141) #[] #[])]),
 (1412,bl 154 0 none [(vi 0),(vu 0),vN,(st []),vN,vN,vN,vN,vN,(.func (.func 142) #[] #[])]),
 (1414,.map [((st [120]),(vp 1421 0))] 1),
 (1415,bl 158 0 none [(vm 1414),(vp 1363 0),(vm 1416)]),
 (1416,.pmap [] 0)]
def M52:MS:=⟨1431,preM52,1365,1415,fun p=>Nat.add 1390 p⟩
end
end Go.AM
namespace Go.AM
noncomputable section
variable {P:Program} {W:World} {N:Tr} {F:Fns}
theorem kt_low: ∀ {N:Tr} {o v:Nat} {t:List UInt8},KT F N o v t→o=8∨o=11→v<256:=by
 intro N o v t h
 induction h with
 |chr _ hv=>intro _;exact hv
 | @txt N b _ _=>intro _;exact b.toNat_lt
 | @paren N k o v t _ _ _ ih=>
  intro h
  by_cases h1:o=11
  ·subst h1;exact ih (.inr rfl)
  ·rw[if_neg h1]at h
   have h8:o=8:=by omega
   subst h8;exact ih (.inl rfl)
 | @opB N k l w c a b v v' t t' _ _ _ hc hc2 _ _ ha hb _ _=>
  intro h
  exfalso
  have hcc:c=0∨c=1:=by omega
  rcases hcc with rfl|rfl<;>rcases ha with rfl|rfl<;>rcases hb with rfl|rfl<;>revert h<;>decide
 | @not N k o v t _ _ _ ho _=>
  intro h
  split at h<;>omega
 | @one N d k p o v o' v' t _ _ _ _ hc _=>
  intro h
  unfold call1 at hc
  split at hc<;>(try split at hc)<;>simp only[Option.some.injEq,Prod.mk.injEq,reduceCtorEq]at hc<;>omega
 |_=>intro h;omega
def wr (M:MS) (a i m:Nat):TopM:=⟨M,a,i,m⟩
def FullWay (P:Program) (one:Bool) (o:Nat) (S:TS) (M M':MS) (m m':Nat):Prop:=TopWay P (pureT (sy 10) [true] one) o [tsC,S746,S] [wr M 2 14 m,wr M' 1 18 m']
structure TopRuns (P:Program):Prop where
 no:topRun P (pureT (sy 10) [false] false) 0 [] []=true
 unk: ∀o∈[0,1,2,3,4,10,12],topRun P (pureT (sy 10) [true] false) o [tsC] []=true
 r5:FullWay P false 5 S1266 M11 M12 5 5
 r6:FullWay P false 6 S1270 M21 M22 6 6
 r7:FullWay P false 7 S1270 M21 M22 7 7
 r88:FullWay P false 8 S1268 M31 M32 8 8
 r8b:FullWay P true 8 S1268 M31 M32 8 11
 rb8:FullWay P true 8 S1268 M31 M32 11 8
 rbb:FullWay P true 8 S1268 M31 M32 11 11
 r9:FullWay P false 9 S1271 M51 M52 9 9
 r11:FullWay P true 11 S1271 M51 M52 11 11
structure TopWorlds:Prop where
 m11:TopMok (wr M11 2 14 0)
 m12:TopMok (wr M12 1 18 0)
 m21:TopMok (wr M21 2 14 0)
 m22:TopMok (wr M22 1 18 0)
 m31:TopMok (wr M31 2 14 0)
 m32:TopMok (wr M32 1 18 0)
 m51:TopMok (wr M51 2 14 0)
 m52:TopMok (wr M52 1 18 0)
theorem TopMok.as {M:MS} {a i m m':Nat} (h:TopMok (wr M a i m)):TopMok (wr M a i m'):=⟨h.ms,h.i,h.mini,h.chg⟩
structure LawEnv (P:Program) (W:World) (N:Tr) (F:Fns):Prop where
 mix:P.follows .mixedOrders=true
 base: ∀σ,KnownOk P (kTop1 P) (.at W σ)
 h0:0<W.heap.size
 wf:Wf W N
 known:RealPure P W 5 [] (.bool true)
 letter: ∀b:UInt8,RealPure P W 144 [datM 11 (u32 0) (strV [b])] (datM 8 (u32 b.toNat) emptyS)
 may: ∃a,a<2∧fP P W 12 N a
 tso:TSok tsC
 typ:May N→TypOk P W tsC F N
 kty: ∀ {S:TS},S=S746∨S=S1266∨S=S1268∨S=S1270∨S=S1271→TSok S∧ ∀ {o v:Nat} {t:List UInt8},KT F N o v t→KtyOk P W S N o v t
 mean: ∀ {M:MS},M=M11∨M=M12∨M=M21∨M=M22∨M=M31∨M=M32∨M=M51∨M=M52→ ∀ {o v:Nat} {t:List UInt8},KT F N o v t→MeanOk P W M N o v t
 worlds:TopWorlds
 runs:TopRuns P
theorem big_sym {v s1 s2 bg:Nat} {t:List UInt8} (h:bg≤200): ∀ι:Inj,(∀i l,look (topL N v t bg s1 s2) i=some l→ι i=some l)→VRel ι (sy 10) (.int .i64 (bg:Nat)):=by
 intro ι hp
 obtain⟨a,b,c⟩:=opqMk (id:=10) (code:=0) (off:=0) (by omega) (by omega)
 have:=VRel.sym (ι:=ι) (m:=symMk 10 0 0) (l:=locW bg) (k:= .i64) (by rw[a];exact hp _ _ top10) (by rw[b];rfl) (by rw[a];show bg<symB 10;have:symB 10=700:=rfl;omega) (by rw[c];omega)
 rw[c]at this
 have e:((locW bg).base+0:Nat)=bg:=rfl
 unfold sy
 simpa[locW]using this
theorem full_ok (E:LawEnv P W N F) {bg:Nat} (hb:RealPure P W 4 [N.val,.int .i64 200] (.int .i64 (bg:Nat))) (hbg:bg≤200) (hsz:size1 N≤200) (hmay:RealPure P W 12 [N.val] (.bool true)) {o v:Nat} {t tt:List UInt8} (hT:NodeY P W tsC 16 N.val (outR tsC o v t)) (hg:Good o v t) (hk:KT F N o v t)
 {S:TS} (hS:S=S1266∨S=S1268∨S=S1270∨S=S1271) {M M':MS} {m m' k k':Nat} (hM:TopMok (wr M 2 14 m)) (hM':TopMok (wr M' 1 18 m')) (hk1:k≤size1 N) (hk2:k'≤size1 N)
 (ht:(o=11∨o=12)→tt=t) (g1:GoodM m v tt) (g2:GoodM m' v tt) (hlt:m<12∧m'<12) (hlow:m=8∨m'=8→o=8) (n1:NodeM P W M 143 N.val k (datR m v tt)) (n2:NodeM P W M' 143 N.val k' (datR m' v tt))
 {one:Bool} (h1:one=true→ ∃b:UInt8,tt=[b]∧v=b.toNat) (hrun:FullWay P one o S M M' m m'):RealPure P W 3 [N.val] (.bool true):=by
 have eR: ∀S:TS,outR S o v tt=outR S o v t:=by
  intro S
  by_cases h:o=11∨o=12
  ·rw[ht h]
  ·have e: ∀x,realT o x=emptyS:=fun x=>by unfold realT;split<;>first|rfl|omega
   unfold outR
   rw[e,e]
 have hgt:Good o v tt:=by
  refine⟨hg.lt,hg.v,fun h=>?_,fun h=>?_⟩
  ·rw[ht (.inl h)];exact hg.one h
  ·rw[ht (.inr h)];exact hg.not1 h
 have low:=kt_low hk
 have one': ∀S:TS,S=S746∨S=S1266∨S=S1268∨S=S1270∨S=S1271→TSok S∧NodeY P W S 16 N.val (outR S o v tt):=fun S h=>⟨(E.kty h).1,by rw[eR];exact((E.kty h).2 hk).2⟩
 refine top_way (v:=v) (t:=tt) (r:=bg) (s1:=2+k) (s2:=1+k') E.mix E.base E.h0 E.wf (pureT_ok E.wf hb (big_sym hbg) E.known (fun b hb'=>by rw[List.mem_singleton]at hb';rw[hb'];exact hmay) fun h=>?_) hmay ⟨hgt,low⟩ ?_ (by omega) (by omega) ?_ hrun
 ·obtain⟨b,e1,e2⟩:=h1 h
  exact⟨b,e1,e2,E.letter b⟩
 ·intro S' hS'
  simp only[List.mem_cons,List.mem_nil_iff,or_false]at hS'
  rcases hS' with rfl|rfl|rfl
  ·exact⟨E.tso,by rw[eR];exact hT⟩
  ·exact one' _ (.inl rfl)
  ·exact one' _ (.inr hS)
 ·intro c hc
  simp only[List.mem_cons,List.mem_nil_iff,or_false]at hc
  rcases hc with rfl|rfl
  ·exact⟨hM,g1,hlt.1,fun h=>low (.inl (hlow (.inl h))),k,by show 2+k≤600;omega,fun _=>rfl,fun h=>(by cases h),n1⟩
  ·exact⟨hM',g2,hlt.2,fun h=>low (.inl (hlow (.inr h))),k',by show 1+k'≤600;omega,fun h=>(by cases h),fun _=>rfl,n2⟩
theorem law_ok (E:LawEnv P W N F) {bg:Nat} (hb:RealPure P W 4 [N.val,.int .i64 200] (.int .i64 (bg:Nat))) (hbg:bg≤200) (hsz:size1 N≤200):RealPure P W 3 [N.val] (.bool true):=by
 obtain⟨a,ha,hp,hm⟩:=E.may
 have ha2:a=0∨a=1:=by omega
 rcases ha2 with rfl|rfl
 ·exact top_ok (o:=0) (v:=0) (t:=[]) (r:=bg) (s1:=0) (s2:=0) (tys:=[]) (mes:=[]) E.mix E.base E.h0 E.wf (pureT_ok E.wf hb (big_sym hbg) E.known (fun b hb'=>by rw[List.mem_singleton]at hb';rw[hb'];exact hp) fun h=>by cases h)
   ⟨⟨by omega,by omega,fun h=>(by cases h),fun h=>(by cases h)⟩,fun h=>by omega⟩ (fun S h=>by cases h) (by omega) (by omega) (fun c h=>by cases h) E.runs.no
 ·have hmay:RealPure P W 12 [N.val] (.bool true):=hp
  obtain⟨o,v,t,hg,hT,hk⟩:=E.typ (hm rfl)
  have hlt:=hg.lt
  by_cases hu:o∈[0,1,2,3,4,10,12]
  ·have hne: ¬(o=8∨o=11):=by
    simp only[List.mem_cons,List.mem_nil_iff,or_false]at hu;omega
   exact top_ok (v:=v) (t:=t) (r:=bg) (s1:=0) (s2:=0) (mes:=[]) E.mix E.base E.h0 E.wf (pureT_ok E.wf hb (big_sym hbg) E.known (fun b hb'=>by rw[List.mem_singleton]at hb';rw[hb'];exact hmay) fun h=>by cases h)
    ⟨hg,fun h=>absurd h hne⟩ (fun S h=>by rw[List.mem_singleton]at h;subst h;exact⟨E.tso,hT⟩) (by omega) (by omega) (fun c h=>by cases h) (E.runs.unk o hu)
  ·simp only[List.mem_cons,List.mem_nil_iff,or_false]at hu
   have hko:o=5∨o=6∨o=7∨o=8∨o=9∨o=11:=by omega
   have kt:KT F N o v t:=hk (by rcases hko with rfl|rfl|rfl|rfl|rfl|rfl<;>rfl)
   have B:= @full_ok P W N F E bg hb hbg hsz hmay o v t
   have whole: ∀ {S:TS} {M M':MS} {one:Bool},S=S1266∨S=S1268∨S=S1270∨S=S1271→TopMok (wr M 2 14 o)→TopMok (wr M' 1 18 o)→MeanOk P W M N o v t→MeanOk P W M' N o v t→o≠8→o<12→(one=true→o=11)→FullWay P one o S M M' o o→RealPure P W 3 [N.val] (.bool true):=by
    intro S M M' one hS h1 h2 m1 m2 h8 h12 hone hr
    have hrel:=m1
    obtain⟨k,a1,a2,a3⟩:=m1.same h8
    obtain⟨k',b1,b2,b3⟩:=m2.same h8
    refine B (tt:=t) hT hg kt hS h1 h2 a2 b2 (fun _=>rfl) a1 b1 ⟨h12,h12⟩ (fun h=>by omega) a3 b3 (fun h=>?_) hr
    obtain⟨m,t',_,⟨r1,r2⟩,_⟩:=hrel
    have ho:=hone h
    rcases r1 with⟨rfl,rfl⟩|⟨e,_⟩
    ·exact r2 ho
    ·exact absurd e h8
   rcases hko with rfl|rfl|rfl|rfl|rfl|rfl
   ·exact whole (one:=false) (.inl rfl) E.worlds.m11.as E.worlds.m12.as (E.mean (by simp) kt) (E.mean (by simp) kt) (by omega) (by omega) (fun h=>by cases h) E.runs.r5
   ·exact whole (one:=false) (.inr (.inr (.inl rfl))) E.worlds.m21.as E.worlds.m22.as (E.mean (by simp) kt) (E.mean (by simp) kt) (by omega) (by omega) (fun h=>by cases h) E.runs.r6
   ·exact whole (one:=false) (.inr (.inr (.inl rfl))) E.worlds.m21.as E.worlds.m22.as (E.mean (by simp) kt) (E.mean (by simp) kt) (by omega) (by omega) (fun h=>by cases h) E.runs.r7
   ·obtain⟨m,t1,k,⟨r1,r2⟩,a1,a2,a3⟩:=E.mean (M:=M31) (by simp) kt
    obtain⟨m',t2,k',⟨r1',r2'⟩,b1,b2,b3⟩:=E.mean (M:=M32) (by simp) kt
    have hS:S1268=S1266∨S1268=S1268∨S1268=S1270∨S1268=S1271:= .inr (.inl rfl)
    have em: ∀x,datR 8 v x=datR 8 v []:=fun _=>rfl
    have gm: ∀x,GoodM 8 v x:=fun _=>⟨hg.v,fun h=>by cases h⟩
    have c1:m=8∨m=11:=by rcases r1 with⟨e,_⟩|⟨_,e⟩;exact .inl e;exact .inr e
    have c2:m'=8∨m'=11:=by rcases r1' with⟨e,_⟩|⟨_,e⟩;exact .inl e;exact .inr e
    rcases c1 with rfl|rfl<;>rcases c2 with rfl|rfl
    ·exact B (tt:=t) (one:=false) hT hg kt hS E.worlds.m31.as E.worlds.m32.as a2 b2 (fun h=>by omega) (gm _) (gm _) (by omega) (fun _=>rfl) (by rw[em];rw[em]at a3;exact a3) (by rw[em];rw[em]at b3;exact b3) (fun h=>by cases h) E.runs.r88
    ·exact B (tt:=t2) (one:=true) hT hg kt hS E.worlds.m31.as E.worlds.m32.as a2 b2 (fun h=>by omega) (gm _) b1 (by omega) (fun _=>rfl) (by rw[em];rw[em]at a3;exact a3) b3 (fun _=>r2' rfl) E.runs.r8b
    ·exact B (tt:=t1) (one:=true) hT hg kt hS E.worlds.m31.as E.worlds.m32.as a2 b2 (fun h=>by omega) a1 (gm _) (by omega) (fun _=>rfl) a3 (by rw[em];rw[em]at b3;exact b3) (fun _=>r2 rfl) E.runs.rb8
    ·obtain⟨b,rfl,hb1⟩:=r2 rfl
     obtain⟨b',rfl,hb2⟩:=r2' rfl
     have:b=b':=UInt8.toNat_inj.1 (hb1.symm.trans hb2)
     subst this
     exact B (tt:=[b]) (one:=true) hT hg kt hS E.worlds.m31.as E.worlds.m32.as a2 b2 (fun h=>by omega) a1 b1 (by omega) (fun _=>rfl) a3 b3 (fun _=>⟨b,rfl,hb1⟩) E.runs.rbb
   ·exact whole (one:=false) (.inr (.inr (.inr rfl))) E.worlds.m51.as E.worlds.m52.as (E.mean (by simp) kt) (E.mean (by simp) kt) (by omega) (by omega) (fun h=>by cases h) E.runs.r9
   ·exact whole (one:=true) (.inr (.inr (.inr rfl))) E.worlds.m51.as E.worlds.m52.as (E.mean (by simp) kt) (E.mean (by simp) kt) (by omega) (by omega) (fun _=>rfl) E.runs.r11
end
end Go.AM
namespace Go.AM
noncomputable section
def fPut (g:T Value) (dst:Option Tmp) (v:Value):T Value:=Option.rec (motive:=fun _=>T Value) g (fun d=>g.set d v) dst
theorem fPut_eq (g:T Value) (dst:Option Tmp) (v:Value):fPut g dst v=putD g dst v:=by cases dst<;>rfl
def fHd (r:Run) (dst:Option Tmp) (gd:Gd) (l:List Cl) (ih:T Value→S→RR) (g:T Value) (s:S) (o:OR):RR:=
 OR.rec (motive:=fun _=>RR) (fun v s'=>ih (fPut g dst v) s') (fun f a=> .at_ (⟨r,dst,gd⟩::l) g s (.call f a)) (fun n a=> .at_ (⟨r,dst,gd⟩::l) g s (.round n a))
  (fun f c a=> .at_ (⟨r,dst,gd⟩::l) g s (.dfr f c a)) (.at_ (⟨r,dst,gd⟩::l) g s .rcv) (fun n k x=> .at_ (⟨r,dst,gd⟩::l) g s (.upd n k x))
  (fun t v=> .at_ (⟨r,dst,gd⟩::l) g s (.pan t v)) (fun n=> .at_ (⟨r,dst,gd⟩::l) g s (.bad n)) o
def fExec (r0:Run) (dst:Option Tmp) (gd:Gd) (l:List Cl) (ih:T Value→S→RR) (g:T Value) (s:S) (r:Run):RR:=
 Run.rec (motive:=fun _=>RR)
  (fun f=>Option.rec (motive:=fun _=>RR) (.bad 303) (fun v=>ih (fPut g dst v) s) (f g))
  (fun f=>Option.rec (motive:=fun _=>RR) (.bad 301) (fun v=>ih (fPut g dst v) s) (f g s))
  (fun f=>Option.rec (motive:=fun _=>RR) (.bad 302) (fun q=>Prod.rec (motive:=fun _=>RR) (fun o mk=>ih (fPut g dst (mk s.nx)) (s.push o)) q) (f g))
  (fun f=>fHd r0 dst gd l ih g s (f g s)) r
def fGd (no:RR) (ex:RR) (g:T Value) (gd:Gd):RR:=
 Gd.rec (motive:=fun _=>RR) ex (fun d w=>Option.rec (motive:=fun _=>RR) (.bad 300) (fun b=>Bool.rec (motive:=fun _=>RR) no ex b) (gdT (.on d w) g)) gd
def fCl (l:List Cl) (ih:T Value→S→RR) (g:T Value) (s:S) (c:Cl):RR:=
 Cl.rec (motive:=fun _=>RR) (fun r dst gd=>fGd (ih (fPut g dst und) s) (fExec r dst gd l ih g s r) g gd) c
def fOps (l:List Cl):T Value→S→RR:=
 List.rec (motive:=fun _=>T Value→S→RR) (fun g s=> .fin g s) (fun c l ih g s=>fCl l ih g s c) l
theorem fOps_eq: ∀(l:List Cl) (g:T Value) (s:S),fOps l g s=runOps l g s
 |[],g,s=>rfl
 |⟨r,dst,gd⟩::l,g,s=>by
  have ih:fOps l=runOps l:=funext fun g=>funext fun s=>fOps_eq l g s
  show fGd (fOps l (fPut g dst und) s) (fExec r dst gd l (fOps l) g s r) g gd=_
  rw[ih,fPut_eq]
  have hex:fExec r dst gd l (runOps l) g s r=(match r with
   | .pu f=>match f g with
    |some v=>runOps l (putD g dst v) s
    |none=> .bad 303
   | .rd f=>match f g s with
    |some v=>runOps l (putD g dst v) s
    |none=> .bad 301
   | .al f=>match f g with
    |some (o,mk)=>runOps l (putD g dst (mk s.nx)) (s.push o)
    |none=> .bad 302
   | .hd f=>match f g s with
    | .val v s=>runOps l (putD g dst v) s
    |r'=> .at_ (⟨r,dst,gd⟩::l) g s r'):=by
   cases r with
   |pu f=>simp only[fExec];cases f g<;>simp only[fPut_eq]
   |rd f=>simp only[fExec];cases f g s<;>simp only[fPut_eq]
   |al f=>
    simp only[fExec]
    cases f g with
    |none=>rfl
    |some q=>obtain⟨o,mk⟩:=q;simp only[fPut_eq]
   |hd f=>simp only[fExec];cases f g s<;>simp only[fHd,fPut_eq]
  cases gd with
  |no=>
   simp only[fGd,runOps,gdT]
   exact hex
  |on d w=>
   simp only[fGd,runOps]
   cases gdT (.on d w) g with
   |none=>rfl
   |some b=>cases b with
    |false=>rfl
    |true=>exact hex
def fMk (fn nt:Nat) (ds:List ADef) (d:Bool) (r:Option Nat) (cs:List Fr) (g:T Value) (s:S) (k:List AItem):Res:= .next ⟨⟨fn,nt,g,k,ds,.run,d,r⟩::cs,s⟩
def fGo (P:Program) (K:Known) (fn nt:Nat) (all:Array Oper) (k:List AItem) (ds:List ADef) (d:Bool) (r:Option Nat) (cs:List Fr) (rr:RR):Res:=
 RR.rec (motive:=fun _=>Res) (fun g s=>fMk fn nt ds d r cs g s k) (fun l g s o=>app P K ⟨fn,nt,g,.ops all l::k,ds,.run,d,r⟩ cs s o) (fun n=> .bad n) rr
theorem fGo_eq {P:Program} {K:Known} {fn nt:Nat} {all:Array Oper} {l:List Cl} {k:List AItem} {ds:List ADef} {d:Bool} {r:Option Nat} {cs:List Fr} {g:T Value} {s:S} :
 fGo P K fn nt all k ds d r cs (fOps l g s)=goOps P K fn nt g all l k ds d r cs s:=by
 rw[fOps_eq]
 unfold goOps
 cases runOps l g s<;>rfl
def boolOf (v:Value):Option Bool:=match v with
 | .bool b=>some b
 |_=>none
def fCode (P:Program) (nt:Nat) (slow:Res) (mk:List AItem→Res) (go:Array Oper→List Cl→Res) (g:T Value) (k:List AItem) (c:Code):Res:=
 Code.rec (motive:=fun _=>Res) (mk k) (fun _ ops draw=>Bool.rec (motive:=fun _=>Res) (go ops (region P nt ops)) slow draw) (fun a b _ _=>mk (.code a:: .code b::k))
  (fun x a b _ _=>Option.rec (motive:=fun _=>Res) slow (fun t=>mk (.code (Bool.rec (motive:=fun _=>Code) b a t)::k)) (boolOf (ev g x))) (fun id b _=>mk (.code b:: .inBlock id::k)) (fun _ _=>slow) (fun _ _ _ _ _ _=>slow)
  (fun id=>Option.rec (motive:=fun _=>Res) slow (fun k=>mk k) (exitA id k)) (fun b _=>mk (.code b:: .inScope b::k)) (fun _=>mk k) (fun _=>slow) slow (fun _=>slow) c
def fItem (P:Program) (K:Known) (slow:Res) (fn nt:Nat) (g:T Value) (ds:List ADef) (d:Bool) (r:Option Nat) (cs:List Fr) (s:S) (k:List AItem) (it:AItem):Res:=
 AItem.rec (motive:=fun _=>Res) (fun c=>fCode P nt slow (fMk fn nt ds d r cs g s) (fun all l=>fGo P K fn nt all k ds d r cs (fOps l g s)) g k c) (fun _=>fMk fn nt ds d r cs g s k) (fun _=>slow)
  (fun _=>fMk fn nt ds d r cs g s k) (fun all l=>fGo P K fn nt all k ds d r cs (fOps l g s)) (fun _ _ _ _=>slow) (fun _=>slow) (fun _=>slow) slow it
def fFr (P:Program) (K:Known) (slow:Res) (cs:List Fr) (s:S) (fr:Fr):Res:=
 Fr.rec (motive:=fun _=>Res) (fun fn nt g todo ds m d r=>AMode.rec (motive:=fun _=>Res) (List.rec (motive:=fun _=>Res) slow (fun it k _=>fItem P K slow fn nt g ds d r cs s k it) todo) slow (fun _=>slow) m) fr
def fStep (P:Program) (K:Known) (st:St):Res:=
 St.rec (motive:=fun _=>Res) (fun frs s=>List.rec (motive:=fun _=>Res) (.bad 450) (fun fr cs _=>fFr P K (stepM P K st) cs s fr) frs) st
def fRun (P:Program) (K:Known) (n:Nat):St→Res:=
 Nat.rec (motive:=fun _=>St→Res) (fun st=> .next st) (fun _ ih st=>Res.rec (motive:=fun _=>Res) (fun st=>ih st) (fun fr s=> .idle fr s) (fun fr s=> .stop fr s) (fun fr s r k x=> .upd fr s r k x) (fun n=> .bad n) (fStep P K st)) n
theorem fStep_eq (P:Program) (K:Known) (st:St):fStep P K st=stepM P K st:=by
 obtain⟨frs,s⟩:=st
 cases frs with
 |nil=>rfl
 |cons fr cs=>
  obtain⟨fn,nt,g,todo,ds,m,d,r⟩:=fr
  cases m with
  |returning=>rfl
  |pan _=>rfl
  |run=>
   cases todo with
   |nil=>rfl
   |cons it k=>
    cases it with
    |inBlock _=>rfl
    |inLoop _=>rfl
    |inScope _=>rfl
    |ops all l=>exact fGo_eq
    |draw _ _ _ _=>rfl
    |inRF _=>rfl
    |endRF _=>rfl
    |beginRound=>rfl
    |code c=>
     cases c with
     |skip=>rfl
     |region id ops draw=>
      cases draw with
      |true=>rfl
      |false=>exact fGo_eq
     |seq a b=>rfl
     |cond x a b=>
      show Option.rec (motive:=fun _=>Res) (stepM P K _) (fun t=>fMk fn nt ds d r cs g s (.code (Bool.rec (motive:=fun _=>Code) b a t)::k)) (boolOf (ev g x))=stepM P K _
      have hs:stepM P K ⟨⟨fn,nt,g,.code (.cond x a b)::k,ds,.run,d,r⟩::cs,s⟩=stepCode P K fn nt g (.cond x a b) k ds d r cs s:=rfl
      rw[hs]
      simp only[stepCode]
      cases ev g x with
      |bool t=>cases t<;>rfl
      |_=>rfl
     |block _ _=>rfl
     |loop _=>rfl
     |rangeFunc _ _ _ _=>rfl
     |exit id=>
      show Option.rec (motive:=fun _=>Res) (stepM P K _) (fun k=>fMk fn nt ds d r cs g s k) (exitA id k)=stepM P K _
      have hs:stepM P K ⟨⟨fn,nt,g,.code (.exit id)::k,ds,.run,d,r⟩::cs,s⟩=stepCode P K fn nt g (.exit id) k ds d r cs s:=rfl
      rw[hs]
      simp only[stepCode]
      cases exitA id k<;>rfl
     |scope _=>rfl
     |label _=>rfl
     |goto _=>rfl
     |ret=>rfl
     |refuse _=>rfl
theorem fRun_eq (P:Program) (K:Known): ∀(n:Nat) (st:St),fRun P K n st=runM P K n st
 |0,st=>rfl
 |n+1,st=>by
  show Res.rec (motive:=fun _=>Res) (fun st=>fRun P K n st) (fun fr s=> .idle fr s) (fun fr s=> .stop fr s) (fun fr s r k x=> .upd fr s r k x) (fun n=> .bad n) (fStep P K st)=_
  rw[fStep_eq]
  simp only[runM]
  cases stepM P K st with
  |next st=>exact fRun_eq P K n st
  |_=>rfl
def runEF (P:Program) (K:Known) (n:Nat) (st:St):Res:=
 match fRun P K n st with
 | .idle fr s=>match endFr fr with
  |some fr=>fRun P K 2000 ⟨[fr],s⟩
  |none=> .bad 501
 |r=>r
theorem runEF_eq (P:Program) (K:Known) (n:Nat) (st:St):runEF P K n st=runE P K n st:=by
 unfold runEF runE
 rw[fRun_eq]
 cases runM P K n st with
 |idle fr s=>
  simp only[]
  cases endFr fr with
  |none=>rfl
  |some fr=>simp only[fRun_eq]
 |_=>rfl
def shotRunF (P:Program) (K:Known) (n:Nat) (f:FuncId) (sh:Shot):Bool:=
 match sh with
 |⟨args,nx,pre,a,nx',post⟩=>preOk nx post pre&&Nat.ble nx nx'&&
  match enter P f args false with
  |some fr=>match runEF P K n ⟨[fr],⟨ofL pre .leaf,nx,0⟩⟩with
   | .stop fr s2=>(match leafR P fr s2 with|some a'=>sameAns a' a|none=>false)&&Nat.beq s2.nx nx'&&allIn s2.h post
   |_=>false
  |none=>false
theorem shotRunF_eq {P:Program} {K:Known} {n:Nat} {f:FuncId} {sh:Shot} (h:shotRunF P K n f sh=true):shotRun P K n f sh=true:=by
 obtain⟨args,nx,pre,a,nx',post⟩:=sh
 simp only[shotRunF,shotRun,runEF_eq]at h⊢
 exact h
end
end Go.AM
namespace Go.AM
noncomputable section
variable {P:Program} {K:Known}
def tplRunF (P:Program) (K:Known) (n:Nat) (f:FuncId) (args:List Value) (nx:Nat) (pre:List (Nat×AObj)) (ans:Ans) (post:List (Nat×AObj)):Bool:=
 preOk nx post pre&&match enter P f args false with
  |some fr=>match runEF P K n ⟨[fr],⟨ofL pre .leaf,nx,0⟩⟩with
   | .stop fr s2=>(match leafR P fr s2 with|some a'=>sameAns a' ans|none=>false)&&Nat.ble nx s2.nx&&allIn s2.h post
   |_=>false
  |none=>false
theorem tplRunF_eq (P:Program) (K:Known) (n:Nat) (f:FuncId) (args:List Value) (nx:Nat) (pre:List (Nat×AObj)) (ans:Ans) (post:List (Nat×AObj)):tplRunF P K n f args nx pre ans post=tplRun P K n f args nx pre ans post:=by
 simp only[tplRunF,tplRun,runEF_eq]
 rfl
end
end Go.AM
namespace Go.AM
noncomputable section
def allK (n:Nat) (p:Nat→Bool):Bool:=(List.range n).all p
theorem allK_ok {n:Nat} {p:Nat→Bool} (h:allK n p=true): ∀k,k<n→p k=true:=fun k hk=>List.all_eq_true.1 h k (List.mem_range.2 hk)
theorem namedY:allK 64 (fun k=>named (okK k) (typT k) [])=true:=by decide+kernel
theorem namedP:allK 65 (fun k=>named (fun i=>Nat.beq i 4) (procT k) [])=true:=by decide+kernel
theorem namedM:allK 65 (fun k=>named (fun _=>false) (modT k) [])=true:=by decide+kernel
theorem namedOk:NamedOk:=⟨allK_ok namedY,allK_ok namedP,allK_ok namedM⟩
theorem named1:allK 65 (fun k=>named (okSelf 0) (desT k) [])=true:=by decide+kernel
theorem named2:allK 65 (fun k=>named (okSelf 154) (facT k) [])=true:=by decide+kernel
theorem named3:allK 65 (fun k=>named (okSelf 53) (levT k) [])=true:=by decide+kernel
theorem named4:allK 65 (fun k=>named (okSelf 21) (mayT k) [])=true:=by decide+kernel
end
end Go.AM
namespace Go.AM
noncomputable section
variable {P:Program} {S:TS}
theorem all_cut {α:Type} {l:List α} {p:α→Bool} {a n b:Nat} (hb:b=a+n) (h1:((l.drop a).take n).all p=true) (h2:(l.drop b).all p=true):(l.drop a).all p=true:=by
 subst hb
 rw[←List.take_append_drop n (l.drop a),List.all_append,h1,List.drop_drop,h2];rfl
theorem all_end {α:Type} {l:List α} {p:α→Bool} {a n:Nat} (h:l.length≤a+n) (h1:((l.drop a).take n).all p=true):(l.drop a).all p=true:=by
 rwa [List.take_of_length_le (by simp;omega)]at h1
def rowRunF (P:Program) (f:Nat) (r:Row):Bool:=tplRunF P (withE kBase (entsT 100 r.c r.asg)) 400 f [absV 100 r.c] 160 (extT 100 r.c) (.ret (valF f r.ans)) (extT 100 r.c)
def rowTF (P:Program) (f:Nat) (r:Row):Bool:=rowRunF P f r&&factT f r&&Nat.blt r.ans (bif Nat.beq f 21 then 5 else 2)
theorem tabOk_of {f:Nat} {l:List Row} (h:l.all (rowTF P f)=true):tabOk P f l=true:=by
 rw[←h]
 unfold tabOk
 congr 1
 funext r
 simp only[rowTF,rowRunF,rowRun,tplRunF_eq]
def rowRunYF (P:Program) (S:TS) (r:Row):Bool:=tplRunF P (knownY S r) 2000 16 [S.cV,absV S.x r.c] (Nat.add S.x 60) (S.pre++extT S.x r.c) (ansY S r) (S.pre++extT S.x r.c)
theorem rowRunYF_eq (r:Row):rowRunYF P S r=rowRunY P S r:=tplRunF_eq ..
def runGF (P:Program) (S:TS) (f:Nat) (r:Row) (a:Ans):Bool:=tplRunF P (knownY S r) 2000 f [S.cV,absV S.x r.c] (Nat.add S.x 60) (S.pre++extT S.x r.c) a (S.pre++extT S.x r.c)
theorem runGF_eq (f:Nat) (r:Row) (a:Ans):runGF P S f r a=runG P S f r a:=tplRunF_eq ..
def rowYF (P:Program) (S:TS) (r:Row):Bool:=bif isBadR r then badC r.c else srcOk r&&factY r&&litB r&&rowRunYF P S r
def tabYF (P:Program) (S:TS) (k:Nat):Bool:=(rowsY k).all (rowYF P S)
theorem rowYF_eq:rowYF P S=rowY P S:=by funext r;simp only[rowYF,rowY,rowRunYF_eq]
theorem tabYF_eq (k:Nat):tabYF P S k=tabY P S k:=by simp only[tabYF,tabY,rowYF_eq]
def rowPF (P:Program) (S:TS) (r:Row):Bool:=bif isBadR r then badC r.c else factP r&&noReck r&&runGF P S 89 r (procA S r.ans)
theorem rowPF_eq:rowPF P S=rowP P S:=by funext r;simp only[rowPF,rowP,runGF_eq]
def rowMF (P:Program) (S:TS) (r:Row):Bool:=noReck r&&runGF P S 91 r (.ret (.pointer none))
theorem rowMF_eq:rowMF P S=rowM P S:=by funext r;simp only[rowMF,rowM,runGF_eq]
def rowKYF (P:Program) (S:TS) (r:Row):Bool:=srcOk r&&rowRunYF P S r
theorem rowKYF_eq:rowKYF P S=rowKY P S:=by funext r;simp only[rowKYF,rowKY,rowRunYF_eq]
def rowPYF (P:Program) (S:TS) (p:Nat):Bool:=match builtsN[p]? with
 |some w=>runGF P S 89 ⟨⟨some 11,.lit w,.any,none,.any⟩,[],Nat.succ p⟩ (procA S (Nat.succ p))
 |none=>false
theorem rowPYF_eq (p:Nat):rowPYF P S p=rowPY P S p:=by
 unfold rowPYF rowPY
 cases builtsN[p]? with
 |none=>rfl
 |some w=>exact runGF_eq ..
theorem tabK_of (hS:TSok S) (h1:rowsKY.all (rowKYF P S)=true) (h2:(List.range 256).all (fun b=>rowKYF P S (rowTxt b))=true) (h3:(List.range 6).all (rowPYF P S)=true):TabK P S:=
 ⟨hS,fun r hr=>by have:=List.all_eq_true.1 h1 r hr;rwa [rowKYF_eq]at this,fun b hb=>by have:=List.all_eq_true.1 h2 b (List.mem_range.2 hb);rwa [rowKYF_eq]at this,fun p hp=>by have:=List.all_eq_true.1 h3 p (List.mem_range.2 hp);rwa [rowPYF_eq]at this⟩
def rowRunMF (P:Program) (M:MS) (r:RowM):Bool:=
 tplRunF P (knownM M r) 3000 143 (M.hd++[absV M.x r.c]) (Nat.add M.x 60) (M.pre (stp M.x 0 0)++extT M.x r.c) (ansM M r) (M.pre (endM M r)++extT M.x r.c)
theorem rowRunMF_eq {M:MS} (r:RowM):rowRunMF P M r=rowRunM P M r:=tplRunF_eq ..
def objRunF (P:Program) (M:MS) (p:Nat):Bool:=match rowObj p with
 |some c=>tplRunF P noK 3000 226 (M.hd++[absV M.x c]) (Nat.add M.x 60) (M.pre (stp M.x 0 0)++extT M.x c) (.ret (ptrV (M.proc p))) (M.pre (stp M.x 0 0)++extT M.x c)
 |none=>false
theorem objRunF_eq {M:MS} (p:Nat):objRunF P M p=objRun P M p:=by
 unfold objRunF objRun
 cases rowObj p with
 |none=>rfl
 |some c=>exact tplRunF_eq ..
theorem rowsM_of {M:MS} (h:rowsM.all (rowRunMF P M)=true): ∀r∈rowsM,rowRunM P M r=true:=fun r hr=>by have:=List.all_eq_true.1 h r hr;rwa [rowRunMF_eq]at this
theorem objs_of {M:MS} (h:(List.range 6).all (objRunF P M)=true): ∀p,p<6→objRun P M p=true:=fun p hp=>by have:=List.all_eq_true.1 h p (List.mem_range.2 hp);rwa [objRunF_eq]at this
end
end Go.AM
namespace Go.AM
noncomputable section
variable {P:Program}
def lawRunF (P:Program) (K:Known):Bool:=tplRunF P K 100000 3 [nodeT] 40 [] (.ret (.bool true)) []
theorem lawRun_of {K:Known} (h:lawRunF P K=true):lawRun P K=true:=by
 rwa [lawRunF,tplRunF_eq]at h
theorem topRun_of {es:List (Nat×List Value×Ans)} {o:Nat} {tys:List TS} {mes:List TopM} (h:lawRunF P (topK P es o tys mes)=true):topRun P es o tys mes=true:=lawRun_of h
end
end Go.AM
namespace Go.AM
noncomputable section
theorem rng {n:Nat} {p:Nat→Bool} (h:(List.range n).all p=true): ∀k,k<n→p k=true:=fun k hk=>List.all_eq_true.1 h k (List.mem_range.2 hk)
def tsOkB (S:TS):Bool:=okL (fun i=>Nat.blt i S.x) (fun _=>false) S.x S.pre&&miniOk (fun _=>false) S.pre S.pre S.x&&chgOk S.pre [S.cV] S.pre&&Nat.blt S.c S.x&&(List.range 16).all (fun f=>Nat.blt (S.basic f) S.x)&&(List.range 24).all (fun p=>Nat.blt (S.proc p) S.x)
theorem tsOk_of {S:TS} (h:tsOkB S=true):TSok S:=by
 simp only[tsOkB,Bool.and_eq_true]at h
 obtain⟨⟨⟨⟨⟨h1,h2⟩,h3⟩,h4⟩,h5⟩,h6⟩:=h
 exact⟨h1,h2,h3,h4,rng h5,rng h6⟩
def msOkB (M:MS):Bool:=(List.range 3).all (fun i=>(List.range 2).all fun d=>okL (fun j=>Nat.blt j M.x) (qnM M.x) M.x (M.pre (stp M.x i d))&&
 (List.range 3).all fun j=>(List.range 2).all fun e=>miniOk (qnM M.x) (M.pre (stp M.x i d)) (M.pre (stp M.x j e)) M.x&&chgOk (M.pre (stp M.x i d)) M.hd (M.pre (stp M.x j e)))&&
 (Nat.blt M.w M.x&&(Nat.blt M.sc M.x&&(List.range 23).all fun p=>Nat.blt (M.proc p) M.x))
theorem msOk_of {M:MS} (hs: ∀(σ:Nat→Option Nat) (v:Value),mapL (subV σ) (M.pre v)=M.pre (subV σ v)) (h:msOkB M=true):MSok M:=by
 simp only[msOkB,Bool.and_eq_true]at h
 obtain⟨h1,h2,h3,h4⟩:=h
 have g: ∀i d,i<3→d<2→okL (fun j=>Nat.blt j M.x) (qnM M.x) M.x (M.pre (stp M.x i d))=true∧ ∀j e,j<3→e<2→miniOk (qnM M.x) (M.pre (stp M.x i d)) (M.pre (stp M.x j e)) M.x=true∧chgOk (M.pre (stp M.x i d)) M.hd (M.pre (stp M.x j e))=true:=by
  intro i d hi hd
  have:=rng (rng h1 i hi) d hd
  simp only[Bool.and_eq_true]at this
  refine⟨this.1,fun j e hj he=>?_⟩
  have:=rng (rng this.2 j hj) e he
  simpa only[Bool.and_eq_true]using this
 exact⟨hs,fun i d hi hd=>(g i d hi hd).1,fun i d j e hi hd hj he=>((g i d hi hd).2 j e hj he).1,fun i d j e hi hd hj he=>((g i d hi hd).2 j e hj he).2,h2,h3,rng h4⟩
def topOkB (t:TopM):Bool:=(Nat.beq t.i 14||Nat.beq t.i 18)&&(miniOk qnT (t.M.pre (vi t.a)) (t.M.pre (sy t.i)) t.M.x&&chgOk (t.M.pre (vi t.a)) t.M.hd (t.M.pre (sy t.i)))
theorem topOk_of {t:TopM} (hM:MSok t.M) (h:topOkB t=true):TopMok t:=by
 simp only[topOkB,Bool.and_eq_true,Bool.or_eq_true,Nat.beq_eq]at h
 exact⟨hM,h.1,h.2.1,h.2.2⟩
end
end Go.AM

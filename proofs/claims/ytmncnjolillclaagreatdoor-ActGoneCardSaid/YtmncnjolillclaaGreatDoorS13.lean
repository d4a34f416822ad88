/-
  THE SEAT'S TABLES: types, functions, methods, the global cells that are read; made by a program.
-/
import Derived.Test.YtmncnjolillclaaGreatDoorS09
import Derived.Test.YtmncnjolillclaaGreatDoorProg
set_option maxRecDepth 100000
namespace Go.Sk.Seat
open Go.Proofs
noncomputable def ttL : List TypeInfo := [Tryz.t0, Tryz.t1, Tryz.t2, Tryz.t3, Tryz.t4, Tryz.t5, Tryz.t6, Tryz.t7, Tryz.t8, Tryz.t9, Tryz.t10, Tryz.t11, Tryz.t12, Tryz.t13, Tryz.t14, Tryz.t15, Tryz.t16, Tryz.t17, Tryz.t18, Tryz.t19,
  Tryz.t20, Tryz.t21, Tryz.t22, Tryz.t23, Tryz.t24, Tryz.t25, Tryz.t26, Tryz.t27, Tryz.t28, Tryz.t29, Tryz.t30, Tryz.t31, Tryz.t32, Tryz.t33, Tryz.t34, Tryz.t35, Tryz.t36, Tryz.t37, Tryz.t38, Tryz.t39,
  Tryz.t40, Tryz.t41, Tryz.t42, Tryz.t43, Tryz.t44, Tryz.t45, Tryz.t46, Tryz.t47, Tryz.t48, Tryz.t49, Tryz.t50, Tryz.t51, Tryz.t52, Tryz.t53, Tryz.t54, Tryz.t55, Tryz.t56, Tryz.t57, Tryz.t58, Tryz.t59,
  Tryz.t60, Tryz.t61, Tryz.t62, Tryz.t63, Tryz.t64, Tryz.t65, Tryz.t66, Tryz.t67, Tryz.t68, Tryz.t69, Tryz.t70, Tryz.t71, Tryz.t72, Tryz.t73, Tryz.t74, Tryz.t75, Tryz.t76, Tryz.t77, Tryz.t78, Tryz.t79,
  Tryz.t80, Tryz.t81, Tryz.t82, Tryz.t83, Tryz.t84, Tryz.t85, Tryz.t86, Tryz.t87, Tryz.t88, Tryz.t89, Tryz.t90, Tryz.t91, Tryz.t92, Tryz.t93, Tryz.t94, Tryz.t95, Tryz.t96, Tryz.t97, Tryz.t98, Tryz.t99,
  Tryz.t100, Tryz.t101, Tryz.t102, Tryz.t103, Tryz.t104, Tryz.t105, Tryz.t106, Tryz.t107, Tryz.t108, Tryz.t109, Tryz.t110, Tryz.t111, Tryz.t112, Tryz.t113, Tryz.t114, Tryz.t115, Tryz.t116, Tryz.t117, Tryz.t118, Tryz.t119,
  Tryz.t120, Tryz.t121, Tryz.t122, Tryz.t123, Tryz.t124, Tryz.t125, Tryz.t126, Tryz.t127, Tryz.t128, Tryz.t129, Tryz.t130, Tryz.t131, Tryz.t132, Tryz.t133, Tryz.t134, Tryz.t135, Tryz.t136, Tryz.t137, Tryz.t138, Tryz.t139,
  Tryz.t140, Tryz.t141, Tryz.t142, Tryz.t143, Tryz.t144, Tryz.t145, Tryz.t146, Tryz.t147, Tryz.t148, Tryz.t149, Tryz.t150, Tryz.t151, Tryz.t152, Tryz.t153, Tryz.t154, Tryz.t155, Tryz.t156, Tryz.t157, Tryz.t158, Tryz.t159,
  Tryz.t160, Tryz.t161, Tryz.t162, Tryz.t163, Tryz.t164, Tryz.t165, Tryz.t166, Tryz.t167, Tryz.t168, Tryz.t169, Tryz.t170, Tryz.t171, Tryz.t172, Tryz.t173, Tryz.t174, Tryz.t175, Tryz.t176, Tryz.t177, Tryz.t178, Tryz.t179,
  Tryz.t180, Tryz.t181, Tryz.t182, Tryz.t183, Tryz.t184, Tryz.t185, Tryz.t186, Tryz.t187, Tryz.t188, Tryz.t189, Tryz.t190, Tryz.t191, Tryz.t192, Tryz.t193, Tryz.t194, Tryz.t195, Tryz.t196, Tryz.t197, Tryz.t198, Tryz.t199,
  Tryz.t200, Tryz.t201, Tryz.t202, Tryz.t203, Tryz.t204, Tryz.t205, Tryz.t206, Tryz.t207, Tryz.t208, Tryz.t209, Tryz.t210, Tryz.t211, Tryz.t212, Tryz.t213, Tryz.t214, Tryz.t215, Tryz.t216, Tryz.t217, Tryz.t218, Tryz.t219,
  Tryz.t220, Tryz.t221, Tryz.t222, Tryz.t223, Tryz.t224, Tryz.t225, Tryz.t226, Tryz.t227, Tryz.t228, Tryz.t229, Tryz.t230, Tryz.t231, Tryz.t232, Tryz.t233, Tryz.t234, Tryz.t235, Tryz.t236, Tryz.t237, Tryz.t238, Tryz.t239,
  Tryz.t240, Tryz.t241, Tryz.t242, Tryz.t243, Tryz.t244, Tryz.t245, Tryz.t246, Tryz.t247, Tryz.t248, Tryz.t249, Tryz.t250, Tryz.t251, Tryz.t252, Tryz.t253, Tryz.t254, Tryz.t255, Tryz.t256, Tryz.t257, Tryz.t258, Tryz.t259,
  Tryz.t260, Tryz.t261, Tryz.t262, Tryz.t263, Tryz.t264, Tryz.t265, Tryz.t266, Tryz.t267, Tryz.t268, Tryz.t269, Tryz.t270, Tryz.t271, Tryz.t272, Tryz.t273, Tryz.t274, Tryz.t275, Tryz.t276, Tryz.t277, Tryz.t278, Tryz.t279,
  Tryz.t280, Tryz.t281, Tryz.t282, Tryz.t283, Tryz.t284, Tryz.t285, Tryz.t286, Tryz.t287, Tryz.t288, Tryz.t289, Tryz.t290, Tryz.t291, Tryz.t292, Tryz.t293, Tryz.t294, Tryz.t295, Tryz.t296, Tryz.t297, Tryz.t298, Tryz.t299,
  Tryz.t300, Tryz.t301, Tryz.t302, Tryz.t303, Tryz.t304, Tryz.t305, Tryz.t306, Tryz.t307, Tryz.t308, Tryz.t309, Tryz.t310, Tryz.t311, Tryz.t312, Tryz.t313, Tryz.t314, Tryz.t315, Tryz.t316, Tryz.t317, Tryz.t318, Tryz.t319,
  Tryz.t320, Tryz.t321, Tryz.t322, Tryz.t323, Tryz.t324, Tryz.t325, Tryz.t326, Tryz.t327, Tryz.t328, Tryz.t329, Tryz.t330, Tryz.t331, Tryz.t332, Tryz.t333, Tryz.t334, Tryz.t335, Tryz.t336, Tryz.t337, Tryz.t338, Tryz.t339,
  Tryz.t340, Tryz.t341, Tryz.t342, Tryz.t343, Tryz.t344, Tryz.t345, Tryz.t346, Tryz.t347, Tryz.t348, Tryz.t349, Tryz.t350, Tryz.t351, Tryz.t352, Tryz.t353, Tryz.t354, Tryz.t355, Tryz.t356, Tryz.t357, Tryz.t358, Tryz.t359,
  Tryz.t360, Tryz.t361, Tryz.t362, Tryz.t363, Tryz.t364, Tryz.t365, Tryz.t366, Tryz.t367, Tryz.t368, Tryz.t369, Tryz.t370, Tryz.t371, Tryz.t372, Tryz.t373, Tryz.t374, Tryz.t375, Tryz.t376, Tryz.t377, Tryz.t378, Tryz.t379,
  Tryz.t380, Tryz.t381, Tryz.t382, Tryz.t383, Tryz.t384, Tryz.t385, Tryz.t386, Tryz.t387, Tryz.t388, Tryz.t389, Tryz.t390, Tryz.t391, Tryz.t392, Tryz.t393, Tryz.t394, Tryz.t395, Tryz.t396, Tryz.t397, Tryz.t398, Tryz.t399,
  Tryz.t400, Tryz.t401, Tryz.t402, Tryz.t403, Tryz.t404, Tryz.t405, Tryz.t406, Tryz.t407, Tryz.t408, Tryz.t409, Tryz.t410, Tryz.t411, Tryz.t412, Tryz.t413, Tryz.t414, Tryz.t415, Tryz.t416, Tryz.t417, Tryz.t418, Tryz.t419,
  Tryz.t420, Tryz.t421, Tryz.t422, Tryz.t423, Tryz.t424, Tryz.t425, Tryz.t426, Tryz.t427, Tryz.t428, Tryz.t429, Tryz.t430, Tryz.t431, Tryz.t432, Tryz.t433, Tryz.t434, Tryz.t435, Tryz.t436, Tryz.t437, Tryz.t438, Tryz.t439,
  Tryz.t440, Tryz.t441, Tryz.t442, Tryz.t443, Tryz.t444, Tryz.t445, Tryz.t446, Tryz.t447, Tryz.t448, Tryz.t449, Tryz.t450, Tryz.t451, Tryz.t452, Tryz.t453, Tryz.t454, Tryz.t455, Tryz.t456, Tryz.t457, Tryz.t458, Tryz.t459,
  Tryz.t460, Tryz.t461, Tryz.t462, Tryz.t463, Tryz.t464, Tryz.t465, Tryz.t466, Tryz.t467, Tryz.t468, Tryz.t469, Tryz.t470, Tryz.t471, Tryz.t472, Tryz.t473, Tryz.t474, Tryz.t475, Tryz.t476, Tryz.t477, Tryz.t478, Tryz.t479,
  Tryz.t480, Tryz.t481, Tryz.t482, Tryz.t483, Tryz.t484, Tryz.t485, Tryz.t486, Tryz.t487, Tryz.t488, Tryz.t489, Tryz.t490, Tryz.t491, Tryz.t492, Tryz.t493, Tryz.t494, Tryz.t495, Tryz.t496, Tryz.t497, Tryz.t498, Tryz.t499,
  Tryz.t500, Tryz.t501, Tryz.t502, Tryz.t503, Tryz.t504, Tryz.t505, Tryz.t506, Tryz.t507, Tryz.t508, Tryz.t509, Tryz.t510, Tryz.t511, Tryz.t512, Tryz.t513, Tryz.t514, Tryz.t515, Tryz.t516, Tryz.t517, Tryz.t518, Tryz.t519,
  Tryz.t520, Tryz.t521, Tryz.t522, Tryz.t523, Tryz.t524, Tryz.t525, Tryz.t526, Tryz.t527, Tryz.t528, Tryz.t529, Tryz.t530, Tryz.t531, Tryz.t532, Tryz.t533, Tryz.t534]
noncomputable def ttT : Tr TypeInfo := (.node (.node (.node (.node (.node (.node (.node (.node (.node (.node .nil (some Tryz.t511) .nil) (some Tryz.t255) .nil) (some Tryz.t127) (.node .nil (some Tryz.t383) .nil)) (some Tryz.t63) (.node (.node .nil (some Tryz.t319) .nil) (some Tryz.t191) (.node .nil (some Tryz.t447) .nil))) (some Tryz.t31) (.node (.node (.node .nil (some Tryz.t287) .nil) (some Tryz.t159) (.node .nil (some Tryz.t415) .nil)) (some Tryz.t95) (.node (.node .nil (some Tryz.t351) .nil) (some Tryz.t223) (.node .nil (some Tryz.t479) .nil)))) (some Tryz.t15) (.node (.node (.node (.node (.node .nil (some Tryz.t527) .nil) (some Tryz.t271) .nil) (some Tryz.t143) (.node .nil (some Tryz.t399) .nil)) (some Tryz.t79) (.node (.node .nil (some Tryz.t335) .nil) (some Tryz.t207) (.node .nil (some Tryz.t463) .nil))) (some Tryz.t47) (.node (.node (.node .nil (some Tryz.t303) .nil) (some Tryz.t175) (.node .nil (some Tryz.t431) .nil)) (some Tryz.t111) (.node (.node .nil (some Tryz.t367) .nil) (some Tryz.t239) (.node .nil (some Tryz.t495) .nil))))) (some Tryz.t7) (.node (.node (.node (.node (.node (.node .nil (some Tryz.t519) .nil) (some Tryz.t263) .nil) (some Tryz.t135) (.node .nil (some Tryz.t391) .nil)) (some Tryz.t71) (.node (.node .nil (some Tryz.t327) .nil) (some Tryz.t199) (.node .nil (some Tryz.t455) .nil))) (some Tryz.t39) (.node (.node (.node .nil (some Tryz.t295) .nil) (some Tryz.t167) (.node .nil (some Tryz.t423) .nil)) (some Tryz.t103) (.node (.node .nil (some Tryz.t359) .nil) (some Tryz.t231) (.node .nil (some Tryz.t487) .nil)))) (some Tryz.t23) (.node (.node (.node (.node .nil (some Tryz.t279) .nil) (some Tryz.t151) (.node .nil (some Tryz.t407) .nil)) (some Tryz.t87) (.node (.node .nil (some Tryz.t343) .nil) (some Tryz.t215) (.node .nil (some Tryz.t471) .nil))) (some Tryz.t55) (.node (.node (.node .nil (some Tryz.t311) .nil) (some Tryz.t183) (.node .nil (some Tryz.t439) .nil)) (some Tryz.t119) (.node (.node .nil (some Tryz.t375) .nil) (some Tryz.t247) (.node .nil (some Tryz.t503) .nil)))))) (some Tryz.t3) (.node (.node (.node (.node (.node (.node (.node .nil (some Tryz.t515) .nil) (some Tryz.t259) .nil) (some Tryz.t131) (.node .nil (some Tryz.t387) .nil)) (some Tryz.t67) (.node (.node .nil (some Tryz.t323) .nil) (some Tryz.t195) (.node .nil (some Tryz.t451) .nil))) (some Tryz.t35) (.node (.node (.node .nil (some Tryz.t291) .nil) (some Tryz.t163) (.node .nil (some Tryz.t419) .nil)) (some Tryz.t99) (.node (.node .nil (some Tryz.t355) .nil) (some Tryz.t227) (.node .nil (some Tryz.t483) .nil)))) (some Tryz.t19) (.node (.node (.node (.node (.node .nil (some Tryz.t531) .nil) (some Tryz.t275) .nil) (some Tryz.t147) (.node .nil (some Tryz.t403) .nil)) (some Tryz.t83) (.node (.node .nil (some Tryz.t339) .nil) (some Tryz.t211) (.node .nil (some Tryz.t467) .nil))) (some Tryz.t51) (.node (.node (.node .nil (some Tryz.t307) .nil) (some Tryz.t179) (.node .nil (some Tryz.t435) .nil)) (some Tryz.t115) (.node (.node .nil (some Tryz.t371) .nil) (some Tryz.t243) (.node .nil (some Tryz.t499) .nil))))) (some Tryz.t11) (.node (.node (.node (.node (.node (.node .nil (some Tryz.t523) .nil) (some Tryz.t267) .nil) (some Tryz.t139) (.node .nil (some Tryz.t395) .nil)) (some Tryz.t75) (.node (.node .nil (some Tryz.t331) .nil) (some Tryz.t203) (.node .nil (some Tryz.t459) .nil))) (some Tryz.t43) (.node (.node (.node .nil (some Tryz.t299) .nil) (some Tryz.t171) (.node .nil (some Tryz.t427) .nil)) (some Tryz.t107) (.node (.node .nil (some Tryz.t363) .nil) (some Tryz.t235) (.node .nil (some Tryz.t491) .nil)))) (some Tryz.t27) (.node (.node (.node (.node .nil (some Tryz.t283) .nil) (some Tryz.t155) (.node .nil (some Tryz.t411) .nil)) (some Tryz.t91) (.node (.node .nil (some Tryz.t347) .nil) (some Tryz.t219) (.node .nil (some Tryz.t475) .nil))) (some Tryz.t59) (.node (.node (.node .nil (some Tryz.t315) .nil) (some Tryz.t187) (.node .nil (some Tryz.t443) .nil)) (some Tryz.t123) (.node (.node .nil (some Tryz.t379) .nil) (some Tryz.t251) (.node .nil (some Tryz.t507) .nil))))))) (some Tryz.t1) (.node (.node (.node (.node (.node (.node (.node (.node .nil (some Tryz.t513) .nil) (some Tryz.t257) .nil) (some Tryz.t129) (.node .nil (some Tryz.t385) .nil)) (some Tryz.t65) (.node (.node .nil (some Tryz.t321) .nil) (some Tryz.t193) (.node .nil (some Tryz.t449) .nil))) (some Tryz.t33) (.node (.node (.node .nil (some Tryz.t289) .nil) (some Tryz.t161) (.node .nil (some Tryz.t417) .nil)) (some Tryz.t97) (.node (.node .nil (some Tryz.t353) .nil) (some Tryz.t225) (.node .nil (some Tryz.t481) .nil)))) (some Tryz.t17) (.node (.node (.node (.node (.node .nil (some Tryz.t529) .nil) (some Tryz.t273) .nil) (some Tryz.t145) (.node .nil (some Tryz.t401) .nil)) (some Tryz.t81) (.node (.node .nil (some Tryz.t337) .nil) (some Tryz.t209) (.node .nil (some Tryz.t465) .nil))) (some Tryz.t49) (.node (.node (.node .nil (some Tryz.t305) .nil) (some Tryz.t177) (.node .nil (some Tryz.t433) .nil)) (some Tryz.t113) (.node (.node .nil (some Tryz.t369) .nil) (some Tryz.t241) (.node .nil (some Tryz.t497) .nil))))) (some Tryz.t9) (.node (.node (.node (.node (.node (.node .nil (some Tryz.t521) .nil) (some Tryz.t265) .nil) (some Tryz.t137) (.node .nil (some Tryz.t393) .nil)) (some Tryz.t73) (.node (.node .nil (some Tryz.t329) .nil) (some Tryz.t201) (.node .nil (some Tryz.t457) .nil))) (some Tryz.t41) (.node (.node (.node .nil (some Tryz.t297) .nil) (some Tryz.t169) (.node .nil (some Tryz.t425) .nil)) (some Tryz.t105) (.node (.node .nil (some Tryz.t361) .nil) (some Tryz.t233) (.node .nil (some Tryz.t489) .nil)))) (some Tryz.t25) (.node (.node (.node (.node .nil (some Tryz.t281) .nil) (some Tryz.t153) (.node .nil (some Tryz.t409) .nil)) (some Tryz.t89) (.node (.node .nil (some Tryz.t345) .nil) (some Tryz.t217) (.node .nil (some Tryz.t473) .nil))) (some Tryz.t57) (.node (.node (.node .nil (some Tryz.t313) .nil) (some Tryz.t185) (.node .nil (some Tryz.t441) .nil)) (some Tryz.t121) (.node (.node .nil (some Tryz.t377) .nil) (some Tryz.t249) (.node .nil (some Tryz.t505) .nil)))))) (some Tryz.t5) (.node (.node (.node (.node (.node (.node (.node .nil (some Tryz.t517) .nil) (some Tryz.t261) .nil) (some Tryz.t133) (.node .nil (some Tryz.t389) .nil)) (some Tryz.t69) (.node (.node .nil (some Tryz.t325) .nil) (some Tryz.t197) (.node .nil (some Tryz.t453) .nil))) (some Tryz.t37) (.node (.node (.node .nil (some Tryz.t293) .nil) (some Tryz.t165) (.node .nil (some Tryz.t421) .nil)) (some Tryz.t101) (.node (.node .nil (some Tryz.t357) .nil) (some Tryz.t229) (.node .nil (some Tryz.t485) .nil)))) (some Tryz.t21) (.node (.node (.node (.node (.node .nil (some Tryz.t533) .nil) (some Tryz.t277) .nil) (some Tryz.t149) (.node .nil (some Tryz.t405) .nil)) (some Tryz.t85) (.node (.node .nil (some Tryz.t341) .nil) (some Tryz.t213) (.node .nil (some Tryz.t469) .nil))) (some Tryz.t53) (.node (.node (.node .nil (some Tryz.t309) .nil) (some Tryz.t181) (.node .nil (some Tryz.t437) .nil)) (some Tryz.t117) (.node (.node .nil (some Tryz.t373) .nil) (some Tryz.t245) (.node .nil (some Tryz.t501) .nil))))) (some Tryz.t13) (.node (.node (.node (.node (.node (.node .nil (some Tryz.t525) .nil) (some Tryz.t269) .nil) (some Tryz.t141) (.node .nil (some Tryz.t397) .nil)) (some Tryz.t77) (.node (.node .nil (some Tryz.t333) .nil) (some Tryz.t205) (.node .nil (some Tryz.t461) .nil))) (some Tryz.t45) (.node (.node (.node .nil (some Tryz.t301) .nil) (some Tryz.t173) (.node .nil (some Tryz.t429) .nil)) (some Tryz.t109) (.node (.node .nil (some Tryz.t365) .nil) (some Tryz.t237) (.node .nil (some Tryz.t493) .nil)))) (some Tryz.t29) (.node (.node (.node (.node .nil (some Tryz.t285) .nil) (some Tryz.t157) (.node .nil (some Tryz.t413) .nil)) (some Tryz.t93) (.node (.node .nil (some Tryz.t349) .nil) (some Tryz.t221) (.node .nil (some Tryz.t477) .nil))) (some Tryz.t61) (.node (.node (.node .nil (some Tryz.t317) .nil) (some Tryz.t189) (.node .nil (some Tryz.t445) .nil)) (some Tryz.t125) (.node (.node .nil (some Tryz.t381) .nil) (some Tryz.t253) (.node .nil (some Tryz.t509) .nil)))))))) (some Tryz.t0) (.node (.node (.node (.node (.node (.node (.node (.node (.node .nil (some Tryz.t512) .nil) (some Tryz.t256) .nil) (some Tryz.t128) (.node .nil (some Tryz.t384) .nil)) (some Tryz.t64) (.node (.node .nil (some Tryz.t320) .nil) (some Tryz.t192) (.node .nil (some Tryz.t448) .nil))) (some Tryz.t32) (.node (.node (.node .nil (some Tryz.t288) .nil) (some Tryz.t160) (.node .nil (some Tryz.t416) .nil)) (some Tryz.t96) (.node (.node .nil (some Tryz.t352) .nil) (some Tryz.t224) (.node .nil (some Tryz.t480) .nil)))) (some Tryz.t16) (.node (.node (.node (.node (.node .nil (some Tryz.t528) .nil) (some Tryz.t272) .nil) (some Tryz.t144) (.node .nil (some Tryz.t400) .nil)) (some Tryz.t80) (.node (.node .nil (some Tryz.t336) .nil) (some Tryz.t208) (.node .nil (some Tryz.t464) .nil))) (some Tryz.t48) (.node (.node (.node .nil (some Tryz.t304) .nil) (some Tryz.t176) (.node .nil (some Tryz.t432) .nil)) (some Tryz.t112) (.node (.node .nil (some Tryz.t368) .nil) (some Tryz.t240) (.node .nil (some Tryz.t496) .nil))))) (some Tryz.t8) (.node (.node (.node (.node (.node (.node .nil (some Tryz.t520) .nil) (some Tryz.t264) .nil) (some Tryz.t136) (.node .nil (some Tryz.t392) .nil)) (some Tryz.t72) (.node (.node .nil (some Tryz.t328) .nil) (some Tryz.t200) (.node .nil (some Tryz.t456) .nil))) (some Tryz.t40) (.node (.node (.node .nil (some Tryz.t296) .nil) (some Tryz.t168) (.node .nil (some Tryz.t424) .nil)) (some Tryz.t104) (.node (.node .nil (some Tryz.t360) .nil) (some Tryz.t232) (.node .nil (some Tryz.t488) .nil)))) (some Tryz.t24) (.node (.node (.node (.node .nil (some Tryz.t280) .nil) (some Tryz.t152) (.node .nil (some Tryz.t408) .nil)) (some Tryz.t88) (.node (.node .nil (some Tryz.t344) .nil) (some Tryz.t216) (.node .nil (some Tryz.t472) .nil))) (some Tryz.t56) (.node (.node (.node .nil (some Tryz.t312) .nil) (some Tryz.t184) (.node .nil (some Tryz.t440) .nil)) (some Tryz.t120) (.node (.node .nil (some Tryz.t376) .nil) (some Tryz.t248) (.node .nil (some Tryz.t504) .nil)))))) (some Tryz.t4) (.node (.node (.node (.node (.node (.node (.node .nil (some Tryz.t516) .nil) (some Tryz.t260) .nil) (some Tryz.t132) (.node .nil (some Tryz.t388) .nil)) (some Tryz.t68) (.node (.node .nil (some Tryz.t324) .nil) (some Tryz.t196) (.node .nil (some Tryz.t452) .nil))) (some Tryz.t36) (.node (.node (.node .nil (some Tryz.t292) .nil) (some Tryz.t164) (.node .nil (some Tryz.t420) .nil)) (some Tryz.t100) (.node (.node .nil (some Tryz.t356) .nil) (some Tryz.t228) (.node .nil (some Tryz.t484) .nil)))) (some Tryz.t20) (.node (.node (.node (.node (.node .nil (some Tryz.t532) .nil) (some Tryz.t276) .nil) (some Tryz.t148) (.node .nil (some Tryz.t404) .nil)) (some Tryz.t84) (.node (.node .nil (some Tryz.t340) .nil) (some Tryz.t212) (.node .nil (some Tryz.t468) .nil))) (some Tryz.t52) (.node (.node (.node .nil (some Tryz.t308) .nil) (some Tryz.t180) (.node .nil (some Tryz.t436) .nil)) (some Tryz.t116) (.node (.node .nil (some Tryz.t372) .nil) (some Tryz.t244) (.node .nil (some Tryz.t500) .nil))))) (some Tryz.t12) (.node (.node (.node (.node (.node (.node .nil (some Tryz.t524) .nil) (some Tryz.t268) .nil) (some Tryz.t140) (.node .nil (some Tryz.t396) .nil)) (some Tryz.t76) (.node (.node .nil (some Tryz.t332) .nil) (some Tryz.t204) (.node .nil (some Tryz.t460) .nil))) (some Tryz.t44) (.node (.node (.node .nil (some Tryz.t300) .nil) (some Tryz.t172) (.node .nil (some Tryz.t428) .nil)) (some Tryz.t108) (.node (.node .nil (some Tryz.t364) .nil) (some Tryz.t236) (.node .nil (some Tryz.t492) .nil)))) (some Tryz.t28) (.node (.node (.node (.node .nil (some Tryz.t284) .nil) (some Tryz.t156) (.node .nil (some Tryz.t412) .nil)) (some Tryz.t92) (.node (.node .nil (some Tryz.t348) .nil) (some Tryz.t220) (.node .nil (some Tryz.t476) .nil))) (some Tryz.t60) (.node (.node (.node .nil (some Tryz.t316) .nil) (some Tryz.t188) (.node .nil (some Tryz.t444) .nil)) (some Tryz.t124) (.node (.node .nil (some Tryz.t380) .nil) (some Tryz.t252) (.node .nil (some Tryz.t508) .nil))))))) (some Tryz.t2) (.node (.node (.node (.node (.node (.node (.node (.node .nil (some Tryz.t514) .nil) (some Tryz.t258) .nil) (some Tryz.t130) (.node .nil (some Tryz.t386) .nil)) (some Tryz.t66) (.node (.node .nil (some Tryz.t322) .nil) (some Tryz.t194) (.node .nil (some Tryz.t450) .nil))) (some Tryz.t34) (.node (.node (.node .nil (some Tryz.t290) .nil) (some Tryz.t162) (.node .nil (some Tryz.t418) .nil)) (some Tryz.t98) (.node (.node .nil (some Tryz.t354) .nil) (some Tryz.t226) (.node .nil (some Tryz.t482) .nil)))) (some Tryz.t18) (.node (.node (.node (.node (.node .nil (some Tryz.t530) .nil) (some Tryz.t274) .nil) (some Tryz.t146) (.node .nil (some Tryz.t402) .nil)) (some Tryz.t82) (.node (.node .nil (some Tryz.t338) .nil) (some Tryz.t210) (.node .nil (some Tryz.t466) .nil))) (some Tryz.t50) (.node (.node (.node .nil (some Tryz.t306) .nil) (some Tryz.t178) (.node .nil (some Tryz.t434) .nil)) (some Tryz.t114) (.node (.node .nil (some Tryz.t370) .nil) (some Tryz.t242) (.node .nil (some Tryz.t498) .nil))))) (some Tryz.t10) (.node (.node (.node (.node (.node (.node .nil (some Tryz.t522) .nil) (some Tryz.t266) .nil) (some Tryz.t138) (.node .nil (some Tryz.t394) .nil)) (some Tryz.t74) (.node (.node .nil (some Tryz.t330) .nil) (some Tryz.t202) (.node .nil (some Tryz.t458) .nil))) (some Tryz.t42) (.node (.node (.node .nil (some Tryz.t298) .nil) (some Tryz.t170) (.node .nil (some Tryz.t426) .nil)) (some Tryz.t106) (.node (.node .nil (some Tryz.t362) .nil) (some Tryz.t234) (.node .nil (some Tryz.t490) .nil)))) (some Tryz.t26) (.node (.node (.node (.node .nil (some Tryz.t282) .nil) (some Tryz.t154) (.node .nil (some Tryz.t410) .nil)) (some Tryz.t90) (.node (.node .nil (some Tryz.t346) .nil) (some Tryz.t218) (.node .nil (some Tryz.t474) .nil))) (some Tryz.t58) (.node (.node (.node .nil (some Tryz.t314) .nil) (some Tryz.t186) (.node .nil (some Tryz.t442) .nil)) (some Tryz.t122) (.node (.node .nil (some Tryz.t378) .nil) (some Tryz.t250) (.node .nil (some Tryz.t506) .nil)))))) (some Tryz.t6) (.node (.node (.node (.node (.node (.node (.node .nil (some Tryz.t518) .nil) (some Tryz.t262) .nil) (some Tryz.t134) (.node .nil (some Tryz.t390) .nil)) (some Tryz.t70) (.node (.node .nil (some Tryz.t326) .nil) (some Tryz.t198) (.node .nil (some Tryz.t454) .nil))) (some Tryz.t38) (.node (.node (.node .nil (some Tryz.t294) .nil) (some Tryz.t166) (.node .nil (some Tryz.t422) .nil)) (some Tryz.t102) (.node (.node .nil (some Tryz.t358) .nil) (some Tryz.t230) (.node .nil (some Tryz.t486) .nil)))) (some Tryz.t22) (.node (.node (.node (.node (.node .nil (some Tryz.t534) .nil) (some Tryz.t278) .nil) (some Tryz.t150) (.node .nil (some Tryz.t406) .nil)) (some Tryz.t86) (.node (.node .nil (some Tryz.t342) .nil) (some Tryz.t214) (.node .nil (some Tryz.t470) .nil))) (some Tryz.t54) (.node (.node (.node .nil (some Tryz.t310) .nil) (some Tryz.t182) (.node .nil (some Tryz.t438) .nil)) (some Tryz.t118) (.node (.node .nil (some Tryz.t374) .nil) (some Tryz.t246) (.node .nil (some Tryz.t502) .nil))))) (some Tryz.t14) (.node (.node (.node (.node (.node (.node .nil (some Tryz.t526) .nil) (some Tryz.t270) .nil) (some Tryz.t142) (.node .nil (some Tryz.t398) .nil)) (some Tryz.t78) (.node (.node .nil (some Tryz.t334) .nil) (some Tryz.t206) (.node .nil (some Tryz.t462) .nil))) (some Tryz.t46) (.node (.node (.node .nil (some Tryz.t302) .nil) (some Tryz.t174) (.node .nil (some Tryz.t430) .nil)) (some Tryz.t110) (.node (.node .nil (some Tryz.t366) .nil) (some Tryz.t238) (.node .nil (some Tryz.t494) .nil)))) (some Tryz.t30) (.node (.node (.node (.node .nil (some Tryz.t286) .nil) (some Tryz.t158) (.node .nil (some Tryz.t414) .nil)) (some Tryz.t94) (.node (.node .nil (some Tryz.t350) .nil) (some Tryz.t222) (.node .nil (some Tryz.t478) .nil))) (some Tryz.t62) (.node (.node (.node .nil (some Tryz.t318) .nil) (some Tryz.t190) (.node .nil (some Tryz.t446) .nil)) (some Tryz.t126) (.node (.node .nil (some Tryz.t382) .nil) (some Tryz.t254) (.node .nil (some Tryz.t510) .nil)))))))))
noncomputable def tt : TT := ttT.get
noncomputable def fnL : List Func := [Tryz.f0, Tryz.f1, Tryz.f2, Tryz.f3, Tryz.f4, Tryz.f5, Tryz.f6, Tryz.f7, Tryz.f8, Tryz.f9, Tryz.f10, Tryz.f11, Tryz.f12, Tryz.f13, Tryz.f14, Tryz.f15, Tryz.f16, Tryz.f17, Tryz.f18, Tryz.f19,
  Tryz.f20, Tryz.f21, Tryz.f22, Tryz.f23, Tryz.f24, Tryz.f25, Tryz.f26, Tryz.f27, Tryz.f28, Tryz.f29, Tryz.f30, Tryz.f31, Tryz.f32, Tryz.f33, Tryz.f34, Tryz.f35, Tryz.f36, Tryz.f37, Tryz.f38, Tryz.f39,
  Tryz.f40, Tryz.f41, Tryz.f42, Tryz.f43, Tryz.f44, Tryz.f45, Tryz.f46, Tryz.f47, Tryz.f48, Tryz.f49, Tryz.f50, Tryz.f51, Tryz.f52, Tryz.f53, Tryz.f54, Tryz.f55, Tryz.f56, Tryz.f57, Tryz.f58, Tryz.f59,
  Tryz.f60, Tryz.f61, Tryz.f62, Tryz.f63, Tryz.f64, Tryz.f65, Tryz.f66, Tryz.f67, Tryz.f68, Tryz.f69, Tryz.f70, Tryz.f71, Tryz.f72, Tryz.f73, Tryz.f74, Tryz.f75, Tryz.f76, Tryz.f77, Tryz.f78, Tryz.f79,
  Tryz.f80, Tryz.f81, Tryz.f82, Tryz.f83, Tryz.f84, Tryz.f85, Tryz.f86, Tryz.f87, Tryz.f88, Tryz.f89, Tryz.f90, Tryz.f91, Tryz.f92, Tryz.f93, Tryz.f94, Tryz.f95, Tryz.f96, Tryz.f97, Tryz.f98, Tryz.f99,
  Tryz.f100, Tryz.f101, Tryz.f102, Tryz.f103, Tryz.f104, Tryz.f105, Tryz.f106, Tryz.f107, Tryz.f108, Tryz.f109, Tryz.f110, Tryz.f111, Tryz.f112, Tryz.f113, Tryz.f114, Tryz.f115, Tryz.f116, Tryz.f117, Tryz.f118, Tryz.f119,
  Tryz.f120, Tryz.f121, Tryz.f122, Tryz.f123, Tryz.f124, Tryz.f125, Tryz.f126, Tryz.f127, Tryz.f128, Tryz.f129, Tryz.f130, Tryz.f131, Tryz.f132, Tryz.f133, Tryz.f134, Tryz.f135, Tryz.f136, Tryz.f137, Tryz.f138, Tryz.f139,
  Tryz.f140, Tryz.f141, Tryz.f142, Tryz.f143, Tryz.f144, Tryz.f145, Tryz.f146, Tryz.f147, Tryz.f148, Tryz.f149, Tryz.f150, Tryz.f151, Tryz.f152, Tryz.f153, Tryz.f154, Tryz.f155, Tryz.f156, Tryz.f157, Tryz.f158, Tryz.f159,
  Tryz.f160, Tryz.f161, Tryz.f162, Tryz.f163, Tryz.f164, Tryz.f165, Tryz.f166, Tryz.f167, Tryz.f168, Tryz.f169, Tryz.f170, Tryz.f171, Tryz.f172, Tryz.f173, Tryz.f174, Tryz.f175, Tryz.f176, Tryz.f177, Tryz.f178, Tryz.f179,
  Tryz.f180, Tryz.f181, Tryz.f182, Tryz.f183, Tryz.f184, Tryz.f185, Tryz.f186, Tryz.f187, Tryz.f188, Tryz.f189, Tryz.f190, Tryz.f191, Tryz.f192, Tryz.f193, Tryz.f194, Tryz.f195, Tryz.f196, Tryz.f197, Tryz.f198, Tryz.f199,
  Tryz.f200, Tryz.f201, Tryz.f202, Tryz.f203, Tryz.f204, Tryz.f205, Tryz.f206, Tryz.f207, Tryz.f208, Tryz.f209, Tryz.f210, Tryz.f211, Tryz.f212, Tryz.f213, Tryz.f214, Tryz.f215, Tryz.f216, Tryz.f217, Tryz.f218, Tryz.f219,
  Tryz.f220, Tryz.f221, Tryz.f222, Tryz.f223, Tryz.f224, Tryz.f225, Tryz.f226, Tryz.f227, Tryz.f228, Tryz.f229, Tryz.f230, Tryz.f231, Tryz.f232, Tryz.f233, Tryz.f234, Tryz.f235, Tryz.f236, Tryz.f237, Tryz.f238, Tryz.f239,
  Tryz.f240, Tryz.f241, Tryz.f242, Tryz.f243, Tryz.f244, Tryz.f245, Tryz.f246, Tryz.f247, Tryz.f248, Tryz.f249, Tryz.f250, Tryz.f251, Tryz.f252, Tryz.f253, Tryz.f254, Tryz.f255, Tryz.f256, Tryz.f257, Tryz.f258, Tryz.f259,
  Tryz.f260, Tryz.f261, Tryz.f262, Tryz.f263, Tryz.f264, Tryz.f265, Tryz.f266, Tryz.f267, Tryz.f268, Tryz.f269, Tryz.f270, Tryz.f271, Tryz.f272, Tryz.f273, Tryz.f274, Tryz.f275, Tryz.f276, Tryz.f277, Tryz.f278, Tryz.f279,
  Tryz.f280, Tryz.f281, Tryz.f282, Tryz.f283, Tryz.f284, Tryz.f285, Tryz.f286, Tryz.f287, Tryz.f288, Tryz.f289, Tryz.f290, Tryz.f291, Tryz.f292, Tryz.f293, Tryz.f294, Tryz.f295, Tryz.f296, Tryz.f297, Tryz.f298, Tryz.f299,
  Tryz.f300, Tryz.f301, Tryz.f302, Tryz.f303, Tryz.f304, Tryz.f305, Tryz.f306, Tryz.f307, Tryz.f308, Tryz.f309, Tryz.f310, Tryz.f311, Tryz.f312, Tryz.f313, Tryz.f314, Tryz.f315, Tryz.f316, Tryz.f317, Tryz.f318, Tryz.f319,
  Tryz.f320, Tryz.f321, Tryz.f322, Tryz.f323, Tryz.f324, Tryz.f325, Tryz.f326, Tryz.f327, Tryz.f328, Tryz.f329, Tryz.f330, Tryz.f331, Tryz.f332, Tryz.f333, Tryz.f334, Tryz.f335, Tryz.f336, Tryz.f337, Tryz.f338, Tryz.f339,
  Tryz.f340, Tryz.f341, Tryz.f342, Tryz.f343, Tryz.f344, Tryz.f345, Tryz.f346, Tryz.f347, Tryz.f348, Tryz.f349, Tryz.f350, Tryz.f351, Tryz.f352, Tryz.f353, Tryz.f354, Tryz.f355, Tryz.f356, Tryz.f357, Tryz.f358, Tryz.f359,
  Tryz.f360, Tryz.f361, Tryz.f362, Tryz.f363, Tryz.f364, Tryz.f365, Tryz.f366, Tryz.f367, Tryz.f368, Tryz.f369, Tryz.f370, Tryz.f371, Tryz.f372, Tryz.f373, Tryz.f374, Tryz.f375, Tryz.f376, Tryz.f377, Tryz.f378, Tryz.f379,
  Tryz.f380, Tryz.f381, Tryz.f382, Tryz.f383, Tryz.f384, Tryz.f385, Tryz.f386, Tryz.f387, Tryz.f388, Tryz.f389, Tryz.f390, Tryz.f391, Tryz.f392, Tryz.f393, Tryz.f394, Tryz.f395, Tryz.f396, Tryz.f397, Tryz.f398, Tryz.f399,
  Tryz.f400, Tryz.f401, Tryz.f402, Tryz.f403, Tryz.f404, Tryz.f405, Tryz.f406, Tryz.f407]
noncomputable def ext (n : Nat) : Option ExtK := bif Nat.beq n 291 then some .count else bif Nat.beq n 308 then some .indexByte else none
noncomputable def cxA (gl : Nat → Nat → Option V) (a : List (BinOp × IE × IE × Bool)) : Cx := { asm := a, glob := gl, meth := methT tt, ext := ext }
section
variable (gl : Nat → Nat → Option V) (a : List (BinOp × IE × IE × Bool))
noncomputable def g0 : Option DFn := compFn tt (cxA gl a) Tryz.f0
noncomputable def g1 : Option DFn := compFn tt (cxA gl a) Tryz.f1
noncomputable def g2 : Option DFn := compFn tt (cxA gl a) Tryz.f2
noncomputable def g3 : Option DFn := compFn tt (cxA gl a) Tryz.f3
noncomputable def g4 : Option DFn := compFn tt (cxA gl a) Tryz.f4
noncomputable def g5 : Option DFn := compFn tt (cxA gl a) Tryz.f5
noncomputable def g6 : Option DFn := compFn tt (cxA gl a) Tryz.f6
noncomputable def g7 : Option DFn := compFn tt (cxA gl a) Tryz.f7
noncomputable def g8 : Option DFn := compFn tt (cxA gl a) Tryz.f8
noncomputable def g9 : Option DFn := compFn tt (cxA gl a) Tryz.f9
noncomputable def g10 : Option DFn := compFn tt (cxA gl a) Tryz.f10
noncomputable def g11 : Option DFn := compFn tt (cxA gl a) Tryz.f11
noncomputable def g12 : Option DFn := compFn tt (cxA gl a) Tryz.f12
noncomputable def g13 : Option DFn := compFn tt (cxA gl a) Tryz.f13
noncomputable def g14 : Option DFn := compFn tt (cxA gl a) Tryz.f14
noncomputable def g15 : Option DFn := compFn tt (cxA gl a) Tryz.f15
noncomputable def g16 : Option DFn := compFn tt (cxA gl a) Tryz.f16
noncomputable def g17 : Option DFn := compFn tt (cxA gl a) Tryz.f17
noncomputable def g18 : Option DFn := compFn tt (cxA gl a) Tryz.f18
noncomputable def g19 : Option DFn := compFn tt (cxA gl a) Tryz.f19
noncomputable def g20 : Option DFn := compFn tt (cxA gl a) Tryz.f20
noncomputable def g21 : Option DFn := compFn tt (cxA gl a) Tryz.f21
noncomputable def g22 : Option DFn := compFn tt (cxA gl a) Tryz.f22
noncomputable def g23 : Option DFn := compFn tt (cxA gl a) Tryz.f23
noncomputable def g24 : Option DFn := compFn tt (cxA gl a) Tryz.f24
noncomputable def g25 : Option DFn := compFn tt (cxA gl a) Tryz.f25
noncomputable def g26 : Option DFn := compFn tt (cxA gl a) Tryz.f26
noncomputable def g27 : Option DFn := compFn tt (cxA gl a) Tryz.f27
noncomputable def g28 : Option DFn := compFn tt (cxA gl a) Tryz.f28
noncomputable def g29 : Option DFn := compFn tt (cxA gl a) Tryz.f29
noncomputable def g30 : Option DFn := compFn tt (cxA gl a) Tryz.f30
noncomputable def g31 : Option DFn := compFn tt (cxA gl a) Tryz.f31
noncomputable def g32 : Option DFn := compFn tt (cxA gl a) Tryz.f32
noncomputable def g33 : Option DFn := compFn tt (cxA gl a) Tryz.f33
noncomputable def g34 : Option DFn := compFn tt (cxA gl a) Tryz.f34
noncomputable def g35 : Option DFn := compFn tt (cxA gl a) Tryz.f35
noncomputable def g36 : Option DFn := compFn tt (cxA gl a) Tryz.f36
noncomputable def g37 : Option DFn := compFn tt (cxA gl a) Tryz.f37
noncomputable def g38 : Option DFn := compFn tt (cxA gl a) Tryz.f38
noncomputable def g39 : Option DFn := compFn tt (cxA gl a) Tryz.f39
noncomputable def g40 : Option DFn := compFn tt (cxA gl a) Tryz.f40
noncomputable def g41 : Option DFn := compFn tt (cxA gl a) Tryz.f41
noncomputable def g42 : Option DFn := compFn tt (cxA gl a) Tryz.f42
noncomputable def g43 : Option DFn := compFn tt (cxA gl a) Tryz.f43
noncomputable def g44 : Option DFn := compFn tt (cxA gl a) Tryz.f44
noncomputable def g45 : Option DFn := compFn tt (cxA gl a) Tryz.f45
noncomputable def g46 : Option DFn := compFn tt (cxA gl a) Tryz.f46
noncomputable def g47 : Option DFn := compFn tt (cxA gl a) Tryz.f47
noncomputable def g48 : Option DFn := compFn tt (cxA gl a) Tryz.f48
noncomputable def g49 : Option DFn := compFn tt (cxA gl a) Tryz.f49
noncomputable def g50 : Option DFn := compFn tt (cxA gl a) Tryz.f50
noncomputable def g51 : Option DFn := compFn tt (cxA gl a) Tryz.f51
noncomputable def g52 : Option DFn := compFn tt (cxA gl a) Tryz.f52
noncomputable def g53 : Option DFn := compFn tt (cxA gl a) Tryz.f53
noncomputable def g54 : Option DFn := compFn tt (cxA gl a) Tryz.f54
noncomputable def g55 : Option DFn := compFn tt (cxA gl a) Tryz.f55
noncomputable def g56 : Option DFn := compFn tt (cxA gl a) Tryz.f56
noncomputable def g57 : Option DFn := compFn tt (cxA gl a) Tryz.f57
noncomputable def g58 : Option DFn := compFn tt (cxA gl a) Tryz.f58
noncomputable def g59 : Option DFn := compFn tt (cxA gl a) Tryz.f59
noncomputable def g60 : Option DFn := compFn tt (cxA gl a) Tryz.f60
noncomputable def g61 : Option DFn := compFn tt (cxA gl a) Tryz.f61
noncomputable def g62 : Option DFn := compFn tt (cxA gl a) Tryz.f62
noncomputable def g63 : Option DFn := compFn tt (cxA gl a) Tryz.f63
noncomputable def g64 : Option DFn := compFn tt (cxA gl a) Tryz.f64
noncomputable def g65 : Option DFn := compFn tt (cxA gl a) Tryz.f65
noncomputable def g66 : Option DFn := compFn tt (cxA gl a) Tryz.f66
noncomputable def g67 : Option DFn := compFn tt (cxA gl a) Tryz.f67
noncomputable def g68 : Option DFn := compFn tt (cxA gl a) Tryz.f68
noncomputable def g69 : Option DFn := compFn tt (cxA gl a) Tryz.f69
noncomputable def g70 : Option DFn := compFn tt (cxA gl a) Tryz.f70
noncomputable def g71 : Option DFn := compFn tt (cxA gl a) Tryz.f71
noncomputable def g72 : Option DFn := compFn tt (cxA gl a) Tryz.f72
noncomputable def g73 : Option DFn := compFn tt (cxA gl a) Tryz.f73
noncomputable def g74 : Option DFn := compFn tt (cxA gl a) Tryz.f74
noncomputable def g75 : Option DFn := compFn tt (cxA gl a) Tryz.f75
noncomputable def g76 : Option DFn := compFn tt (cxA gl a) Tryz.f76
noncomputable def g77 : Option DFn := compFn tt (cxA gl a) Tryz.f77
noncomputable def g78 : Option DFn := compFn tt (cxA gl a) Tryz.f78
noncomputable def g79 : Option DFn := compFn tt (cxA gl a) Tryz.f79
noncomputable def g80 : Option DFn := compFn tt (cxA gl a) Tryz.f80
noncomputable def g81 : Option DFn := compFn tt (cxA gl a) Tryz.f81
noncomputable def g82 : Option DFn := compFn tt (cxA gl a) Tryz.f82
noncomputable def g83 : Option DFn := compFn tt (cxA gl a) Tryz.f83
noncomputable def g84 : Option DFn := compFn tt (cxA gl a) Tryz.f84
noncomputable def g85 : Option DFn := compFn tt (cxA gl a) Tryz.f85
noncomputable def g86 : Option DFn := compFn tt (cxA gl a) Tryz.f86
noncomputable def g87 : Option DFn := compFn tt (cxA gl a) Tryz.f87
noncomputable def g88 : Option DFn := compFn tt (cxA gl a) Tryz.f88
noncomputable def g89 : Option DFn := compFn tt (cxA gl a) Tryz.f89
noncomputable def g90 : Option DFn := compFn tt (cxA gl a) Tryz.f90
noncomputable def g91 : Option DFn := compFn tt (cxA gl a) Tryz.f91
noncomputable def g92 : Option DFn := compFn tt (cxA gl a) Tryz.f92
noncomputable def g93 : Option DFn := compFn tt (cxA gl a) Tryz.f93
noncomputable def g94 : Option DFn := compFn tt (cxA gl a) Tryz.f94
noncomputable def g95 : Option DFn := compFn tt (cxA gl a) Tryz.f95
noncomputable def g96 : Option DFn := compFn tt (cxA gl a) Tryz.f96
noncomputable def g97 : Option DFn := compFn tt (cxA gl a) Tryz.f97
noncomputable def g98 : Option DFn := compFn tt (cxA gl a) Tryz.f98
noncomputable def g99 : Option DFn := compFn tt (cxA gl a) Tryz.f99
noncomputable def g100 : Option DFn := compFn tt (cxA gl a) Tryz.f100
noncomputable def g101 : Option DFn := compFn tt (cxA gl a) Tryz.f101
noncomputable def g102 : Option DFn := compFn tt (cxA gl a) Tryz.f102
noncomputable def g103 : Option DFn := compFn tt (cxA gl a) Tryz.f103
noncomputable def g104 : Option DFn := compFn tt (cxA gl a) Tryz.f104
noncomputable def g105 : Option DFn := compFn tt (cxA gl a) Tryz.f105
noncomputable def g106 : Option DFn := compFn tt (cxA gl a) Tryz.f106
noncomputable def g107 : Option DFn := compFn tt (cxA gl a) Tryz.f107
noncomputable def g108 : Option DFn := compFn tt (cxA gl a) Tryz.f108
noncomputable def g109 : Option DFn := compFn tt (cxA gl a) Tryz.f109
noncomputable def g110 : Option DFn := compFn tt (cxA gl a) Tryz.f110
noncomputable def g111 : Option DFn := compFn tt (cxA gl a) Tryz.f111
noncomputable def g112 : Option DFn := compFn tt (cxA gl a) Tryz.f112
noncomputable def g113 : Option DFn := compFn tt (cxA gl a) Tryz.f113
noncomputable def g114 : Option DFn := compFn tt (cxA gl a) Tryz.f114
noncomputable def g115 : Option DFn := compFn tt (cxA gl a) Tryz.f115
noncomputable def g116 : Option DFn := compFn tt (cxA gl a) Tryz.f116
noncomputable def g117 : Option DFn := compFn tt (cxA gl a) Tryz.f117
noncomputable def g118 : Option DFn := compFn tt (cxA gl a) Tryz.f118
noncomputable def g119 : Option DFn := compFn tt (cxA gl a) Tryz.f119
noncomputable def g120 : Option DFn := compFn tt (cxA gl a) Tryz.f120
noncomputable def g121 : Option DFn := compFn tt (cxA gl a) Tryz.f121
noncomputable def g122 : Option DFn := compFn tt (cxA gl a) Tryz.f122
noncomputable def g123 : Option DFn := compFn tt (cxA gl a) Tryz.f123
noncomputable def g124 : Option DFn := compFn tt (cxA gl a) Tryz.f124
noncomputable def g125 : Option DFn := compFn tt (cxA gl a) Tryz.f125
noncomputable def g126 : Option DFn := compFn tt (cxA gl a) Tryz.f126
noncomputable def g127 : Option DFn := compFn tt (cxA gl a) Tryz.f127
noncomputable def g128 : Option DFn := compFn tt (cxA gl a) Tryz.f128
noncomputable def g129 : Option DFn := compFn tt (cxA gl a) Tryz.f129
noncomputable def g130 : Option DFn := compFn tt (cxA gl a) Tryz.f130
noncomputable def g131 : Option DFn := compFn tt (cxA gl a) Tryz.f131
noncomputable def g132 : Option DFn := compFn tt (cxA gl a) Tryz.f132
noncomputable def g133 : Option DFn := compFn tt (cxA gl a) Tryz.f133
noncomputable def g134 : Option DFn := compFn tt (cxA gl a) Tryz.f134
noncomputable def g135 : Option DFn := compFn tt (cxA gl a) Tryz.f135
noncomputable def g136 : Option DFn := compFn tt (cxA gl a) Tryz.f136
noncomputable def g137 : Option DFn := compFn tt (cxA gl a) Tryz.f137
noncomputable def g138 : Option DFn := compFn tt (cxA gl a) Tryz.f138
noncomputable def g139 : Option DFn := compFn tt (cxA gl a) Tryz.f139
noncomputable def g140 : Option DFn := compFn tt (cxA gl a) Tryz.f140
noncomputable def g141 : Option DFn := compFn tt (cxA gl a) Tryz.f141
noncomputable def g142 : Option DFn := compFn tt (cxA gl a) Tryz.f142
noncomputable def g143 : Option DFn := compFn tt (cxA gl a) Tryz.f143
noncomputable def g144 : Option DFn := compFn tt (cxA gl a) Tryz.f144
noncomputable def g145 : Option DFn := compFn tt (cxA gl a) Tryz.f145
noncomputable def g146 : Option DFn := compFn tt (cxA gl a) Tryz.f146
noncomputable def g147 : Option DFn := compFn tt (cxA gl a) Tryz.f147
noncomputable def g148 : Option DFn := compFn tt (cxA gl a) Tryz.f148
noncomputable def g149 : Option DFn := compFn tt (cxA gl a) Tryz.f149
noncomputable def g150 : Option DFn := compFn tt (cxA gl a) Tryz.f150
noncomputable def g151 : Option DFn := compFn tt (cxA gl a) Tryz.f151
noncomputable def g152 : Option DFn := compFn tt (cxA gl a) Tryz.f152
noncomputable def g153 : Option DFn := compFn tt (cxA gl a) Tryz.f153
noncomputable def g154 : Option DFn := compFn tt (cxA gl a) Tryz.f154
noncomputable def g155 : Option DFn := compFn tt (cxA gl a) Tryz.f155
noncomputable def g156 : Option DFn := compFn tt (cxA gl a) Tryz.f156
noncomputable def g157 : Option DFn := compFn tt (cxA gl a) Tryz.f157
noncomputable def g158 : Option DFn := compFn tt (cxA gl a) Tryz.f158
noncomputable def g159 : Option DFn := compFn tt (cxA gl a) Tryz.f159
noncomputable def g160 : Option DFn := compFn tt (cxA gl a) Tryz.f160
noncomputable def g161 : Option DFn := compFn tt (cxA gl a) Tryz.f161
noncomputable def g162 : Option DFn := compFn tt (cxA gl a) Tryz.f162
noncomputable def g163 : Option DFn := compFn tt (cxA gl a) Tryz.f163
noncomputable def g164 : Option DFn := compFn tt (cxA gl a) Tryz.f164
noncomputable def g165 : Option DFn := compFn tt (cxA gl a) Tryz.f165
noncomputable def g166 : Option DFn := compFn tt (cxA gl a) Tryz.f166
noncomputable def g167 : Option DFn := compFn tt (cxA gl a) Tryz.f167
noncomputable def g168 : Option DFn := compFn tt (cxA gl a) Tryz.f168
noncomputable def g169 : Option DFn := compFn tt (cxA gl a) Tryz.f169
noncomputable def g170 : Option DFn := compFn tt (cxA gl a) Tryz.f170
noncomputable def g171 : Option DFn := compFn tt (cxA gl a) Tryz.f171
noncomputable def g172 : Option DFn := compFn tt (cxA gl a) Tryz.f172
noncomputable def g173 : Option DFn := compFn tt (cxA gl a) Tryz.f173
noncomputable def g174 : Option DFn := compFn tt (cxA gl a) Tryz.f174
noncomputable def g175 : Option DFn := compFn tt (cxA gl a) Tryz.f175
noncomputable def g176 : Option DFn := compFn tt (cxA gl a) Tryz.f176
noncomputable def g177 : Option DFn := compFn tt (cxA gl a) Tryz.f177
noncomputable def g178 : Option DFn := compFn tt (cxA gl a) Tryz.f178
noncomputable def g179 : Option DFn := compFn tt (cxA gl a) Tryz.f179
noncomputable def g180 : Option DFn := compFn tt (cxA gl a) Tryz.f180
noncomputable def g181 : Option DFn := compFn tt (cxA gl a) Tryz.f181
noncomputable def g182 : Option DFn := compFn tt (cxA gl a) Tryz.f182
noncomputable def g183 : Option DFn := compFn tt (cxA gl a) Tryz.f183
noncomputable def g184 : Option DFn := compFn tt (cxA gl a) Tryz.f184
noncomputable def g185 : Option DFn := compFn tt (cxA gl a) Tryz.f185
noncomputable def g186 : Option DFn := compFn tt (cxA gl a) Tryz.f186
noncomputable def g187 : Option DFn := compFn tt (cxA gl a) Tryz.f187
noncomputable def g188 : Option DFn := compFn tt (cxA gl a) Tryz.f188
noncomputable def g189 : Option DFn := compFn tt (cxA gl a) Tryz.f189
noncomputable def g190 : Option DFn := compFn tt (cxA gl a) Tryz.f190
noncomputable def g191 : Option DFn := compFn tt (cxA gl a) Tryz.f191
noncomputable def g192 : Option DFn := compFn tt (cxA gl a) Tryz.f192
noncomputable def g193 : Option DFn := compFn tt (cxA gl a) Tryz.f193
noncomputable def g194 : Option DFn := compFn tt (cxA gl a) Tryz.f194
noncomputable def g195 : Option DFn := compFn tt (cxA gl a) Tryz.f195
noncomputable def g196 : Option DFn := compFn tt (cxA gl a) Tryz.f196
noncomputable def g197 : Option DFn := compFn tt (cxA gl a) Tryz.f197
noncomputable def g198 : Option DFn := compFn tt (cxA gl a) Tryz.f198
noncomputable def g199 : Option DFn := compFn tt (cxA gl a) Tryz.f199
noncomputable def g200 : Option DFn := compFn tt (cxA gl a) Tryz.f200
noncomputable def g201 : Option DFn := compFn tt (cxA gl a) Tryz.f201
noncomputable def g202 : Option DFn := compFn tt (cxA gl a) Tryz.f202
noncomputable def g203 : Option DFn := compFn tt (cxA gl a) Tryz.f203
noncomputable def g204 : Option DFn := compFn tt (cxA gl a) Tryz.f204
noncomputable def g205 : Option DFn := compFn tt (cxA gl a) Tryz.f205
noncomputable def g206 : Option DFn := compFn tt (cxA gl a) Tryz.f206
noncomputable def g207 : Option DFn := compFn tt (cxA gl a) Tryz.f207
noncomputable def g208 : Option DFn := compFn tt (cxA gl a) Tryz.f208
noncomputable def g209 : Option DFn := compFn tt (cxA gl a) Tryz.f209
noncomputable def g210 : Option DFn := compFn tt (cxA gl a) Tryz.f210
noncomputable def g211 : Option DFn := compFn tt (cxA gl a) Tryz.f211
noncomputable def g212 : Option DFn := compFn tt (cxA gl a) Tryz.f212
noncomputable def g213 : Option DFn := compFn tt (cxA gl a) Tryz.f213
noncomputable def g214 : Option DFn := compFn tt (cxA gl a) Tryz.f214
noncomputable def g215 : Option DFn := compFn tt (cxA gl a) Tryz.f215
noncomputable def g216 : Option DFn := compFn tt (cxA gl a) Tryz.f216
noncomputable def g217 : Option DFn := compFn tt (cxA gl a) Tryz.f217
noncomputable def g218 : Option DFn := compFn tt (cxA gl a) Tryz.f218
noncomputable def g219 : Option DFn := compFn tt (cxA gl a) Tryz.f219
noncomputable def g220 : Option DFn := compFn tt (cxA gl a) Tryz.f220
noncomputable def g221 : Option DFn := compFn tt (cxA gl a) Tryz.f221
noncomputable def g222 : Option DFn := compFn tt (cxA gl a) Tryz.f222
noncomputable def g223 : Option DFn := compFn tt (cxA gl a) Tryz.f223
noncomputable def g224 : Option DFn := compFn tt (cxA gl a) Tryz.f224
noncomputable def g225 : Option DFn := compFn tt (cxA gl a) Tryz.f225
noncomputable def g226 : Option DFn := compFn tt (cxA gl a) Tryz.f226
noncomputable def g227 : Option DFn := compFn tt (cxA gl a) Tryz.f227
noncomputable def g228 : Option DFn := compFn tt (cxA gl a) Tryz.f228
noncomputable def g229 : Option DFn := compFn tt (cxA gl a) Tryz.f229
noncomputable def g230 : Option DFn := compFn tt (cxA gl a) Tryz.f230
noncomputable def g231 : Option DFn := compFn tt (cxA gl a) Tryz.f231
noncomputable def g232 : Option DFn := compFn tt (cxA gl a) Tryz.f232
noncomputable def g233 : Option DFn := compFn tt (cxA gl a) Tryz.f233
noncomputable def g234 : Option DFn := compFn tt (cxA gl a) Tryz.f234
noncomputable def g235 : Option DFn := compFn tt (cxA gl a) Tryz.f235
noncomputable def g236 : Option DFn := compFn tt (cxA gl a) Tryz.f236
noncomputable def g237 : Option DFn := compFn tt (cxA gl a) Tryz.f237
noncomputable def g238 : Option DFn := compFn tt (cxA gl a) Tryz.f238
noncomputable def g239 : Option DFn := compFn tt (cxA gl a) Tryz.f239
noncomputable def g240 : Option DFn := compFn tt (cxA gl a) Tryz.f240
noncomputable def g241 : Option DFn := compFn tt (cxA gl a) Tryz.f241
noncomputable def g242 : Option DFn := compFn tt (cxA gl a) Tryz.f242
noncomputable def g243 : Option DFn := compFn tt (cxA gl a) Tryz.f243
noncomputable def g244 : Option DFn := compFn tt (cxA gl a) Tryz.f244
noncomputable def g245 : Option DFn := compFn tt (cxA gl a) Tryz.f245
noncomputable def g246 : Option DFn := compFn tt (cxA gl a) Tryz.f246
noncomputable def g247 : Option DFn := compFn tt (cxA gl a) Tryz.f247
noncomputable def g248 : Option DFn := compFn tt (cxA gl a) Tryz.f248
noncomputable def g249 : Option DFn := compFn tt (cxA gl a) Tryz.f249
noncomputable def g250 : Option DFn := compFn tt (cxA gl a) Tryz.f250
noncomputable def g251 : Option DFn := compFn tt (cxA gl a) Tryz.f251
noncomputable def g252 : Option DFn := compFn tt (cxA gl a) Tryz.f252
noncomputable def g253 : Option DFn := compFn tt (cxA gl a) Tryz.f253
noncomputable def g254 : Option DFn := compFn tt (cxA gl a) Tryz.f254
noncomputable def g255 : Option DFn := compFn tt (cxA gl a) Tryz.f255
noncomputable def g256 : Option DFn := compFn tt (cxA gl a) Tryz.f256
noncomputable def g257 : Option DFn := compFn tt (cxA gl a) Tryz.f257
noncomputable def g258 : Option DFn := compFn tt (cxA gl a) Tryz.f258
noncomputable def g259 : Option DFn := compFn tt (cxA gl a) Tryz.f259
noncomputable def g260 : Option DFn := compFn tt (cxA gl a) Tryz.f260
noncomputable def g261 : Option DFn := compFn tt (cxA gl a) Tryz.f261
noncomputable def g262 : Option DFn := compFn tt (cxA gl a) Tryz.f262
noncomputable def g263 : Option DFn := compFn tt (cxA gl a) Tryz.f263
noncomputable def g264 : Option DFn := compFn tt (cxA gl a) Tryz.f264
noncomputable def g265 : Option DFn := compFn tt (cxA gl a) Tryz.f265
noncomputable def g266 : Option DFn := compFn tt (cxA gl a) Tryz.f266
noncomputable def g267 : Option DFn := compFn tt (cxA gl a) Tryz.f267
noncomputable def g268 : Option DFn := compFn tt (cxA gl a) Tryz.f268
noncomputable def g269 : Option DFn := compFn tt (cxA gl a) Tryz.f269
noncomputable def g270 : Option DFn := compFn tt (cxA gl a) Tryz.f270
noncomputable def g271 : Option DFn := compFn tt (cxA gl a) Tryz.f271
noncomputable def g272 : Option DFn := compFn tt (cxA gl a) Tryz.f272
noncomputable def g273 : Option DFn := compFn tt (cxA gl a) Tryz.f273
noncomputable def g274 : Option DFn := compFn tt (cxA gl a) Tryz.f274
noncomputable def g275 : Option DFn := compFn tt (cxA gl a) Tryz.f275
noncomputable def g276 : Option DFn := compFn tt (cxA gl a) Tryz.f276
noncomputable def g277 : Option DFn := compFn tt (cxA gl a) Tryz.f277
noncomputable def g278 : Option DFn := compFn tt (cxA gl a) Tryz.f278
noncomputable def g279 : Option DFn := compFn tt (cxA gl a) Tryz.f279
noncomputable def g280 : Option DFn := compFn tt (cxA gl a) Tryz.f280
noncomputable def g281 : Option DFn := compFn tt (cxA gl a) Tryz.f281
noncomputable def g282 : Option DFn := compFn tt (cxA gl a) Tryz.f282
noncomputable def g283 : Option DFn := compFn tt (cxA gl a) Tryz.f283
noncomputable def g284 : Option DFn := compFn tt (cxA gl a) Tryz.f284
noncomputable def g285 : Option DFn := compFn tt (cxA gl a) Tryz.f285
noncomputable def g286 : Option DFn := compFn tt (cxA gl a) Tryz.f286
noncomputable def g287 : Option DFn := compFn tt (cxA gl a) Tryz.f287
noncomputable def g288 : Option DFn := compFn tt (cxA gl a) Tryz.f288
noncomputable def g289 : Option DFn := compFn tt (cxA gl a) Tryz.f289
noncomputable def g290 : Option DFn := compFn tt (cxA gl a) Tryz.f290
noncomputable def g291 : Option DFn := compFn tt (cxA gl a) Tryz.f291
noncomputable def g292 : Option DFn := compFn tt (cxA gl a) Tryz.f292
noncomputable def g293 : Option DFn := compFn tt (cxA gl a) Tryz.f293
noncomputable def g294 : Option DFn := compFn tt (cxA gl a) Tryz.f294
noncomputable def g295 : Option DFn := compFn tt (cxA gl a) Tryz.f295
noncomputable def g296 : Option DFn := compFn tt (cxA gl a) Tryz.f296
noncomputable def g297 : Option DFn := compFn tt (cxA gl a) Tryz.f297
noncomputable def g298 : Option DFn := compFn tt (cxA gl a) Tryz.f298
noncomputable def g299 : Option DFn := compFn tt (cxA gl a) Tryz.f299
noncomputable def g300 : Option DFn := compFn tt (cxA gl a) Tryz.f300
noncomputable def g301 : Option DFn := compFn tt (cxA gl a) Tryz.f301
noncomputable def g302 : Option DFn := compFn tt (cxA gl a) Tryz.f302
noncomputable def g303 : Option DFn := compFn tt (cxA gl a) Tryz.f303
noncomputable def g304 : Option DFn := compFn tt (cxA gl a) Tryz.f304
noncomputable def g305 : Option DFn := compFn tt (cxA gl a) Tryz.f305
noncomputable def g306 : Option DFn := compFn tt (cxA gl a) Tryz.f306
noncomputable def g307 : Option DFn := compFn tt (cxA gl a) Tryz.f307
noncomputable def g308 : Option DFn := compFn tt (cxA gl a) Tryz.f308
noncomputable def g309 : Option DFn := compFn tt (cxA gl a) Tryz.f309
noncomputable def g310 : Option DFn := compFn tt (cxA gl a) Tryz.f310
noncomputable def g311 : Option DFn := compFn tt (cxA gl a) Tryz.f311
noncomputable def g312 : Option DFn := compFn tt (cxA gl a) Tryz.f312
noncomputable def g313 : Option DFn := compFn tt (cxA gl a) Tryz.f313
noncomputable def g314 : Option DFn := compFn tt (cxA gl a) Tryz.f314
noncomputable def g315 : Option DFn := compFn tt (cxA gl a) Tryz.f315
noncomputable def g316 : Option DFn := compFn tt (cxA gl a) Tryz.f316
noncomputable def g317 : Option DFn := compFn tt (cxA gl a) Tryz.f317
noncomputable def g318 : Option DFn := compFn tt (cxA gl a) Tryz.f318
noncomputable def g319 : Option DFn := compFn tt (cxA gl a) Tryz.f319
noncomputable def g320 : Option DFn := compFn tt (cxA gl a) Tryz.f320
noncomputable def g321 : Option DFn := compFn tt (cxA gl a) Tryz.f321
noncomputable def g322 : Option DFn := compFn tt (cxA gl a) Tryz.f322
noncomputable def g323 : Option DFn := compFn tt (cxA gl a) Tryz.f323
noncomputable def g324 : Option DFn := compFn tt (cxA gl a) Tryz.f324
noncomputable def g325 : Option DFn := compFn tt (cxA gl a) Tryz.f325
noncomputable def g326 : Option DFn := compFn tt (cxA gl a) Tryz.f326
noncomputable def g327 : Option DFn := compFn tt (cxA gl a) Tryz.f327
noncomputable def g328 : Option DFn := compFn tt (cxA gl a) Tryz.f328
noncomputable def g329 : Option DFn := compFn tt (cxA gl a) Tryz.f329
noncomputable def g330 : Option DFn := compFn tt (cxA gl a) Tryz.f330
noncomputable def g331 : Option DFn := compFn tt (cxA gl a) Tryz.f331
noncomputable def g332 : Option DFn := compFn tt (cxA gl a) Tryz.f332
noncomputable def g333 : Option DFn := compFn tt (cxA gl a) Tryz.f333
noncomputable def g334 : Option DFn := compFn tt (cxA gl a) Tryz.f334
noncomputable def g335 : Option DFn := compFn tt (cxA gl a) Tryz.f335
noncomputable def g336 : Option DFn := compFn tt (cxA gl a) Tryz.f336
noncomputable def g337 : Option DFn := compFn tt (cxA gl a) Tryz.f337
noncomputable def g338 : Option DFn := compFn tt (cxA gl a) Tryz.f338
noncomputable def g339 : Option DFn := compFn tt (cxA gl a) Tryz.f339
noncomputable def g340 : Option DFn := compFn tt (cxA gl a) Tryz.f340
noncomputable def g341 : Option DFn := compFn tt (cxA gl a) Tryz.f341
noncomputable def g342 : Option DFn := compFn tt (cxA gl a) Tryz.f342
noncomputable def g343 : Option DFn := compFn tt (cxA gl a) Tryz.f343
noncomputable def g344 : Option DFn := compFn tt (cxA gl a) Tryz.f344
noncomputable def g345 : Option DFn := compFn tt (cxA gl a) Tryz.f345
noncomputable def g346 : Option DFn := compFn tt (cxA gl a) Tryz.f346
noncomputable def g347 : Option DFn := compFn tt (cxA gl a) Tryz.f347
noncomputable def g348 : Option DFn := compFn tt (cxA gl a) Tryz.f348
noncomputable def g349 : Option DFn := compFn tt (cxA gl a) Tryz.f349
noncomputable def g350 : Option DFn := compFn tt (cxA gl a) Tryz.f350
noncomputable def g351 : Option DFn := compFn tt (cxA gl a) Tryz.f351
noncomputable def g352 : Option DFn := compFn tt (cxA gl a) Tryz.f352
noncomputable def g353 : Option DFn := compFn tt (cxA gl a) Tryz.f353
noncomputable def g354 : Option DFn := compFn tt (cxA gl a) Tryz.f354
noncomputable def g355 : Option DFn := compFn tt (cxA gl a) Tryz.f355
noncomputable def g356 : Option DFn := compFn tt (cxA gl a) Tryz.f356
noncomputable def g357 : Option DFn := compFn tt (cxA gl a) Tryz.f357
noncomputable def g358 : Option DFn := compFn tt (cxA gl a) Tryz.f358
noncomputable def g359 : Option DFn := compFn tt (cxA gl a) Tryz.f359
noncomputable def g360 : Option DFn := compFn tt (cxA gl a) Tryz.f360
noncomputable def g361 : Option DFn := compFn tt (cxA gl a) Tryz.f361
noncomputable def g362 : Option DFn := compFn tt (cxA gl a) Tryz.f362
noncomputable def g363 : Option DFn := compFn tt (cxA gl a) Tryz.f363
noncomputable def g364 : Option DFn := compFn tt (cxA gl a) Tryz.f364
noncomputable def g365 : Option DFn := compFn tt (cxA gl a) Tryz.f365
noncomputable def g366 : Option DFn := compFn tt (cxA gl a) Tryz.f366
noncomputable def g367 : Option DFn := compFn tt (cxA gl a) Tryz.f367
noncomputable def g368 : Option DFn := compFn tt (cxA gl a) Tryz.f368
noncomputable def g369 : Option DFn := compFn tt (cxA gl a) Tryz.f369
noncomputable def g370 : Option DFn := compFn tt (cxA gl a) Tryz.f370
noncomputable def g371 : Option DFn := compFn tt (cxA gl a) Tryz.f371
noncomputable def g372 : Option DFn := compFn tt (cxA gl a) Tryz.f372
noncomputable def g373 : Option DFn := compFn tt (cxA gl a) Tryz.f373
noncomputable def g374 : Option DFn := compFn tt (cxA gl a) Tryz.f374
noncomputable def g375 : Option DFn := compFn tt (cxA gl a) Tryz.f375
noncomputable def g376 : Option DFn := compFn tt (cxA gl a) Tryz.f376
noncomputable def g377 : Option DFn := compFn tt (cxA gl a) Tryz.f377
noncomputable def g378 : Option DFn := compFn tt (cxA gl a) Tryz.f378
noncomputable def g379 : Option DFn := compFn tt (cxA gl a) Tryz.f379
noncomputable def g380 : Option DFn := compFn tt (cxA gl a) Tryz.f380
noncomputable def g381 : Option DFn := compFn tt (cxA gl a) Tryz.f381
noncomputable def g382 : Option DFn := compFn tt (cxA gl a) Tryz.f382
noncomputable def g383 : Option DFn := compFn tt (cxA gl a) Tryz.f383
noncomputable def g384 : Option DFn := compFn tt (cxA gl a) Tryz.f384
noncomputable def g385 : Option DFn := compFn tt (cxA gl a) Tryz.f385
noncomputable def g386 : Option DFn := compFn tt (cxA gl a) Tryz.f386
noncomputable def g387 : Option DFn := compFn tt (cxA gl a) Tryz.f387
noncomputable def g388 : Option DFn := compFn tt (cxA gl a) Tryz.f388
noncomputable def g389 : Option DFn := compFn tt (cxA gl a) Tryz.f389
noncomputable def g390 : Option DFn := compFn tt (cxA gl a) Tryz.f390
noncomputable def g391 : Option DFn := compFn tt (cxA gl a) Tryz.f391
noncomputable def g392 : Option DFn := compFn tt (cxA gl a) Tryz.f392
noncomputable def g393 : Option DFn := compFn tt (cxA gl a) Tryz.f393
noncomputable def g394 : Option DFn := compFn tt (cxA gl a) Tryz.f394
noncomputable def g395 : Option DFn := compFn tt (cxA gl a) Tryz.f395
noncomputable def g396 : Option DFn := compFn tt (cxA gl a) Tryz.f396
noncomputable def g397 : Option DFn := compFn tt (cxA gl a) Tryz.f397
noncomputable def g398 : Option DFn := compFn tt (cxA gl a) Tryz.f398
noncomputable def g399 : Option DFn := compFn tt (cxA gl a) Tryz.f399
noncomputable def g400 : Option DFn := compFn tt (cxA gl a) Tryz.f400
noncomputable def g401 : Option DFn := compFn tt (cxA gl a) Tryz.f401
noncomputable def g402 : Option DFn := compFn tt (cxA gl a) Tryz.f402
noncomputable def g403 : Option DFn := compFn tt (cxA gl a) Tryz.f403
noncomputable def g404 : Option DFn := compFn tt (cxA gl a) Tryz.f404
noncomputable def g405 : Option DFn := compFn tt (cxA gl a) Tryz.f405
noncomputable def g406 : Option DFn := compFn tt (cxA gl a) Tryz.f406
noncomputable def g407 : Option DFn := compFn tt (cxA gl a) Tryz.f407
noncomputable def fnT : Tr (Option DFn) := (.node (.node (.node (.node (.node (.node (.node (.node (.node .nil (some (g255 gl a)) .nil) (some (g127 gl a)) (.node .nil (some (g383 gl a)) .nil)) (some (g63 gl a)) (.node (.node .nil (some (g319 gl a)) .nil) (some (g191 gl a)) .nil)) (some (g31 gl a)) (.node (.node (.node .nil (some (g287 gl a)) .nil) (some (g159 gl a)) .nil) (some (g95 gl a)) (.node (.node .nil (some (g351 gl a)) .nil) (some (g223 gl a)) .nil))) (some (g15 gl a)) (.node (.node (.node (.node .nil (some (g271 gl a)) .nil) (some (g143 gl a)) (.node .nil (some (g399 gl a)) .nil)) (some (g79 gl a)) (.node (.node .nil (some (g335 gl a)) .nil) (some (g207 gl a)) .nil)) (some (g47 gl a)) (.node (.node (.node .nil (some (g303 gl a)) .nil) (some (g175 gl a)) .nil) (some (g111 gl a)) (.node (.node .nil (some (g367 gl a)) .nil) (some (g239 gl a)) .nil)))) (some (g7 gl a)) (.node (.node (.node (.node (.node .nil (some (g263 gl a)) .nil) (some (g135 gl a)) (.node .nil (some (g391 gl a)) .nil)) (some (g71 gl a)) (.node (.node .nil (some (g327 gl a)) .nil) (some (g199 gl a)) .nil)) (some (g39 gl a)) (.node (.node (.node .nil (some (g295 gl a)) .nil) (some (g167 gl a)) .nil) (some (g103 gl a)) (.node (.node .nil (some (g359 gl a)) .nil) (some (g231 gl a)) .nil))) (some (g23 gl a)) (.node (.node (.node (.node .nil (some (g279 gl a)) .nil) (some (g151 gl a)) (.node .nil (some (g407 gl a)) .nil)) (some (g87 gl a)) (.node (.node .nil (some (g343 gl a)) .nil) (some (g215 gl a)) .nil)) (some (g55 gl a)) (.node (.node (.node .nil (some (g311 gl a)) .nil) (some (g183 gl a)) .nil) (some (g119 gl a)) (.node (.node .nil (some (g375 gl a)) .nil) (some (g247 gl a)) .nil))))) (some (g3 gl a)) (.node (.node (.node (.node (.node (.node .nil (some (g259 gl a)) .nil) (some (g131 gl a)) (.node .nil (some (g387 gl a)) .nil)) (some (g67 gl a)) (.node (.node .nil (some (g323 gl a)) .nil) (some (g195 gl a)) .nil)) (some (g35 gl a)) (.node (.node (.node .nil (some (g291 gl a)) .nil) (some (g163 gl a)) .nil) (some (g99 gl a)) (.node (.node .nil (some (g355 gl a)) .nil) (some (g227 gl a)) .nil))) (some (g19 gl a)) (.node (.node (.node (.node .nil (some (g275 gl a)) .nil) (some (g147 gl a)) (.node .nil (some (g403 gl a)) .nil)) (some (g83 gl a)) (.node (.node .nil (some (g339 gl a)) .nil) (some (g211 gl a)) .nil)) (some (g51 gl a)) (.node (.node (.node .nil (some (g307 gl a)) .nil) (some (g179 gl a)) .nil) (some (g115 gl a)) (.node (.node .nil (some (g371 gl a)) .nil) (some (g243 gl a)) .nil)))) (some (g11 gl a)) (.node (.node (.node (.node (.node .nil (some (g267 gl a)) .nil) (some (g139 gl a)) (.node .nil (some (g395 gl a)) .nil)) (some (g75 gl a)) (.node (.node .nil (some (g331 gl a)) .nil) (some (g203 gl a)) .nil)) (some (g43 gl a)) (.node (.node (.node .nil (some (g299 gl a)) .nil) (some (g171 gl a)) .nil) (some (g107 gl a)) (.node (.node .nil (some (g363 gl a)) .nil) (some (g235 gl a)) .nil))) (some (g27 gl a)) (.node (.node (.node (.node .nil (some (g283 gl a)) .nil) (some (g155 gl a)) .nil) (some (g91 gl a)) (.node (.node .nil (some (g347 gl a)) .nil) (some (g219 gl a)) .nil)) (some (g59 gl a)) (.node (.node (.node .nil (some (g315 gl a)) .nil) (some (g187 gl a)) .nil) (some (g123 gl a)) (.node (.node .nil (some (g379 gl a)) .nil) (some (g251 gl a)) .nil)))))) (some (g1 gl a)) (.node (.node (.node (.node (.node (.node (.node .nil (some (g257 gl a)) .nil) (some (g129 gl a)) (.node .nil (some (g385 gl a)) .nil)) (some (g65 gl a)) (.node (.node .nil (some (g321 gl a)) .nil) (some (g193 gl a)) .nil)) (some (g33 gl a)) (.node (.node (.node .nil (some (g289 gl a)) .nil) (some (g161 gl a)) .nil) (some (g97 gl a)) (.node (.node .nil (some (g353 gl a)) .nil) (some (g225 gl a)) .nil))) (some (g17 gl a)) (.node (.node (.node (.node .nil (some (g273 gl a)) .nil) (some (g145 gl a)) (.node .nil (some (g401 gl a)) .nil)) (some (g81 gl a)) (.node (.node .nil (some (g337 gl a)) .nil) (some (g209 gl a)) .nil)) (some (g49 gl a)) (.node (.node (.node .nil (some (g305 gl a)) .nil) (some (g177 gl a)) .nil) (some (g113 gl a)) (.node (.node .nil (some (g369 gl a)) .nil) (some (g241 gl a)) .nil)))) (some (g9 gl a)) (.node (.node (.node (.node (.node .nil (some (g265 gl a)) .nil) (some (g137 gl a)) (.node .nil (some (g393 gl a)) .nil)) (some (g73 gl a)) (.node (.node .nil (some (g329 gl a)) .nil) (some (g201 gl a)) .nil)) (some (g41 gl a)) (.node (.node (.node .nil (some (g297 gl a)) .nil) (some (g169 gl a)) .nil) (some (g105 gl a)) (.node (.node .nil (some (g361 gl a)) .nil) (some (g233 gl a)) .nil))) (some (g25 gl a)) (.node (.node (.node (.node .nil (some (g281 gl a)) .nil) (some (g153 gl a)) .nil) (some (g89 gl a)) (.node (.node .nil (some (g345 gl a)) .nil) (some (g217 gl a)) .nil)) (some (g57 gl a)) (.node (.node (.node .nil (some (g313 gl a)) .nil) (some (g185 gl a)) .nil) (some (g121 gl a)) (.node (.node .nil (some (g377 gl a)) .nil) (some (g249 gl a)) .nil))))) (some (g5 gl a)) (.node (.node (.node (.node (.node (.node .nil (some (g261 gl a)) .nil) (some (g133 gl a)) (.node .nil (some (g389 gl a)) .nil)) (some (g69 gl a)) (.node (.node .nil (some (g325 gl a)) .nil) (some (g197 gl a)) .nil)) (some (g37 gl a)) (.node (.node (.node .nil (some (g293 gl a)) .nil) (some (g165 gl a)) .nil) (some (g101 gl a)) (.node (.node .nil (some (g357 gl a)) .nil) (some (g229 gl a)) .nil))) (some (g21 gl a)) (.node (.node (.node (.node .nil (some (g277 gl a)) .nil) (some (g149 gl a)) (.node .nil (some (g405 gl a)) .nil)) (some (g85 gl a)) (.node (.node .nil (some (g341 gl a)) .nil) (some (g213 gl a)) .nil)) (some (g53 gl a)) (.node (.node (.node .nil (some (g309 gl a)) .nil) (some (g181 gl a)) .nil) (some (g117 gl a)) (.node (.node .nil (some (g373 gl a)) .nil) (some (g245 gl a)) .nil)))) (some (g13 gl a)) (.node (.node (.node (.node (.node .nil (some (g269 gl a)) .nil) (some (g141 gl a)) (.node .nil (some (g397 gl a)) .nil)) (some (g77 gl a)) (.node (.node .nil (some (g333 gl a)) .nil) (some (g205 gl a)) .nil)) (some (g45 gl a)) (.node (.node (.node .nil (some (g301 gl a)) .nil) (some (g173 gl a)) .nil) (some (g109 gl a)) (.node (.node .nil (some (g365 gl a)) .nil) (some (g237 gl a)) .nil))) (some (g29 gl a)) (.node (.node (.node (.node .nil (some (g285 gl a)) .nil) (some (g157 gl a)) .nil) (some (g93 gl a)) (.node (.node .nil (some (g349 gl a)) .nil) (some (g221 gl a)) .nil)) (some (g61 gl a)) (.node (.node (.node .nil (some (g317 gl a)) .nil) (some (g189 gl a)) .nil) (some (g125 gl a)) (.node (.node .nil (some (g381 gl a)) .nil) (some (g253 gl a)) .nil))))))) (some (g0 gl a)) (.node (.node (.node (.node (.node (.node (.node (.node .nil (some (g256 gl a)) .nil) (some (g128 gl a)) (.node .nil (some (g384 gl a)) .nil)) (some (g64 gl a)) (.node (.node .nil (some (g320 gl a)) .nil) (some (g192 gl a)) .nil)) (some (g32 gl a)) (.node (.node (.node .nil (some (g288 gl a)) .nil) (some (g160 gl a)) .nil) (some (g96 gl a)) (.node (.node .nil (some (g352 gl a)) .nil) (some (g224 gl a)) .nil))) (some (g16 gl a)) (.node (.node (.node (.node .nil (some (g272 gl a)) .nil) (some (g144 gl a)) (.node .nil (some (g400 gl a)) .nil)) (some (g80 gl a)) (.node (.node .nil (some (g336 gl a)) .nil) (some (g208 gl a)) .nil)) (some (g48 gl a)) (.node (.node (.node .nil (some (g304 gl a)) .nil) (some (g176 gl a)) .nil) (some (g112 gl a)) (.node (.node .nil (some (g368 gl a)) .nil) (some (g240 gl a)) .nil)))) (some (g8 gl a)) (.node (.node (.node (.node (.node .nil (some (g264 gl a)) .nil) (some (g136 gl a)) (.node .nil (some (g392 gl a)) .nil)) (some (g72 gl a)) (.node (.node .nil (some (g328 gl a)) .nil) (some (g200 gl a)) .nil)) (some (g40 gl a)) (.node (.node (.node .nil (some (g296 gl a)) .nil) (some (g168 gl a)) .nil) (some (g104 gl a)) (.node (.node .nil (some (g360 gl a)) .nil) (some (g232 gl a)) .nil))) (some (g24 gl a)) (.node (.node (.node (.node .nil (some (g280 gl a)) .nil) (some (g152 gl a)) .nil) (some (g88 gl a)) (.node (.node .nil (some (g344 gl a)) .nil) (some (g216 gl a)) .nil)) (some (g56 gl a)) (.node (.node (.node .nil (some (g312 gl a)) .nil) (some (g184 gl a)) .nil) (some (g120 gl a)) (.node (.node .nil (some (g376 gl a)) .nil) (some (g248 gl a)) .nil))))) (some (g4 gl a)) (.node (.node (.node (.node (.node (.node .nil (some (g260 gl a)) .nil) (some (g132 gl a)) (.node .nil (some (g388 gl a)) .nil)) (some (g68 gl a)) (.node (.node .nil (some (g324 gl a)) .nil) (some (g196 gl a)) .nil)) (some (g36 gl a)) (.node (.node (.node .nil (some (g292 gl a)) .nil) (some (g164 gl a)) .nil) (some (g100 gl a)) (.node (.node .nil (some (g356 gl a)) .nil) (some (g228 gl a)) .nil))) (some (g20 gl a)) (.node (.node (.node (.node .nil (some (g276 gl a)) .nil) (some (g148 gl a)) (.node .nil (some (g404 gl a)) .nil)) (some (g84 gl a)) (.node (.node .nil (some (g340 gl a)) .nil) (some (g212 gl a)) .nil)) (some (g52 gl a)) (.node (.node (.node .nil (some (g308 gl a)) .nil) (some (g180 gl a)) .nil) (some (g116 gl a)) (.node (.node .nil (some (g372 gl a)) .nil) (some (g244 gl a)) .nil)))) (some (g12 gl a)) (.node (.node (.node (.node (.node .nil (some (g268 gl a)) .nil) (some (g140 gl a)) (.node .nil (some (g396 gl a)) .nil)) (some (g76 gl a)) (.node (.node .nil (some (g332 gl a)) .nil) (some (g204 gl a)) .nil)) (some (g44 gl a)) (.node (.node (.node .nil (some (g300 gl a)) .nil) (some (g172 gl a)) .nil) (some (g108 gl a)) (.node (.node .nil (some (g364 gl a)) .nil) (some (g236 gl a)) .nil))) (some (g28 gl a)) (.node (.node (.node (.node .nil (some (g284 gl a)) .nil) (some (g156 gl a)) .nil) (some (g92 gl a)) (.node (.node .nil (some (g348 gl a)) .nil) (some (g220 gl a)) .nil)) (some (g60 gl a)) (.node (.node (.node .nil (some (g316 gl a)) .nil) (some (g188 gl a)) .nil) (some (g124 gl a)) (.node (.node .nil (some (g380 gl a)) .nil) (some (g252 gl a)) .nil)))))) (some (g2 gl a)) (.node (.node (.node (.node (.node (.node (.node .nil (some (g258 gl a)) .nil) (some (g130 gl a)) (.node .nil (some (g386 gl a)) .nil)) (some (g66 gl a)) (.node (.node .nil (some (g322 gl a)) .nil) (some (g194 gl a)) .nil)) (some (g34 gl a)) (.node (.node (.node .nil (some (g290 gl a)) .nil) (some (g162 gl a)) .nil) (some (g98 gl a)) (.node (.node .nil (some (g354 gl a)) .nil) (some (g226 gl a)) .nil))) (some (g18 gl a)) (.node (.node (.node (.node .nil (some (g274 gl a)) .nil) (some (g146 gl a)) (.node .nil (some (g402 gl a)) .nil)) (some (g82 gl a)) (.node (.node .nil (some (g338 gl a)) .nil) (some (g210 gl a)) .nil)) (some (g50 gl a)) (.node (.node (.node .nil (some (g306 gl a)) .nil) (some (g178 gl a)) .nil) (some (g114 gl a)) (.node (.node .nil (some (g370 gl a)) .nil) (some (g242 gl a)) .nil)))) (some (g10 gl a)) (.node (.node (.node (.node (.node .nil (some (g266 gl a)) .nil) (some (g138 gl a)) (.node .nil (some (g394 gl a)) .nil)) (some (g74 gl a)) (.node (.node .nil (some (g330 gl a)) .nil) (some (g202 gl a)) .nil)) (some (g42 gl a)) (.node (.node (.node .nil (some (g298 gl a)) .nil) (some (g170 gl a)) .nil) (some (g106 gl a)) (.node (.node .nil (some (g362 gl a)) .nil) (some (g234 gl a)) .nil))) (some (g26 gl a)) (.node (.node (.node (.node .nil (some (g282 gl a)) .nil) (some (g154 gl a)) .nil) (some (g90 gl a)) (.node (.node .nil (some (g346 gl a)) .nil) (some (g218 gl a)) .nil)) (some (g58 gl a)) (.node (.node (.node .nil (some (g314 gl a)) .nil) (some (g186 gl a)) .nil) (some (g122 gl a)) (.node (.node .nil (some (g378 gl a)) .nil) (some (g250 gl a)) .nil))))) (some (g6 gl a)) (.node (.node (.node (.node (.node (.node .nil (some (g262 gl a)) .nil) (some (g134 gl a)) (.node .nil (some (g390 gl a)) .nil)) (some (g70 gl a)) (.node (.node .nil (some (g326 gl a)) .nil) (some (g198 gl a)) .nil)) (some (g38 gl a)) (.node (.node (.node .nil (some (g294 gl a)) .nil) (some (g166 gl a)) .nil) (some (g102 gl a)) (.node (.node .nil (some (g358 gl a)) .nil) (some (g230 gl a)) .nil))) (some (g22 gl a)) (.node (.node (.node (.node .nil (some (g278 gl a)) .nil) (some (g150 gl a)) (.node .nil (some (g406 gl a)) .nil)) (some (g86 gl a)) (.node (.node .nil (some (g342 gl a)) .nil) (some (g214 gl a)) .nil)) (some (g54 gl a)) (.node (.node (.node .nil (some (g310 gl a)) .nil) (some (g182 gl a)) .nil) (some (g118 gl a)) (.node (.node .nil (some (g374 gl a)) .nil) (some (g246 gl a)) .nil)))) (some (g14 gl a)) (.node (.node (.node (.node (.node .nil (some (g270 gl a)) .nil) (some (g142 gl a)) (.node .nil (some (g398 gl a)) .nil)) (some (g78 gl a)) (.node (.node .nil (some (g334 gl a)) .nil) (some (g206 gl a)) .nil)) (some (g46 gl a)) (.node (.node (.node .nil (some (g302 gl a)) .nil) (some (g174 gl a)) .nil) (some (g110 gl a)) (.node (.node .nil (some (g366 gl a)) .nil) (some (g238 gl a)) .nil))) (some (g30 gl a)) (.node (.node (.node (.node .nil (some (g286 gl a)) .nil) (some (g158 gl a)) .nil) (some (g94 gl a)) (.node (.node .nil (some (g350 gl a)) .nil) (some (g222 gl a)) .nil)) (some (g62 gl a)) (.node (.node (.node .nil (some (g318 gl a)) .nil) (some (g190 gl a)) .nil) (some (g126 gl a)) (.node (.node .nil (some (g382 gl a)) .nil) (some (g254 gl a)) .nil))))))))
noncomputable def fns (n : Nat) : Option DFn := match (fnT gl a).get n with | some x => x | none => none
end
/-- The table of math/bits (global 0). -/
noncomputable def db : List Nat := [0,1,56,2,57,49,28,3,61,58,42,50,38,29,17,4,62,47,59,36,45,43,51,22,53,39,33,30,24,18,12,5,63,55,48,27,60,41,37,16,46,35,44,21,52,32,23,11,54,26,40,15,34,20,31,10,25,14,19,9,13,8,7,6]
noncomputable def glob (g o : Nat) : Option V := bif Nat.beq g 0 then (match db[o]? with | some n => some (.int .u8 (.lit (.ofNat n))) | none => none) else none

theorem types_eq : (Tryz.prog).types.toList = ttL := by kernel_rfl
theorem ttT_eq : ttT = trieOf ttL 0 .nil := by kernel_rfl
theorem funcs_eq : (Tryz.prog).funcs.toList = fnL := by kernel_rfl
theorem ttOk : TTok Tryz.prog tt := by
  refine tt_ok (l := ttL) (fun t i h => ?_) (by unfold tt; rw [ttT_eq])
  have h1 : (Tryz.prog).types[t]? = some i := by rw [← Array.getElem?_toList, types_eq]; exact h
  have h2 : t < (Tryz.prog).types.size := (Array.getElem?_eq_some_iff.1 h1).1
  unfold Tables.info?
  rw [if_pos h2]; exact h1
theorem fnT_eq (gl : Nat → Nat → Option V) (a : List (BinOp × IE × IE × Bool)) : fnT gl a = trieOf (fnL.map (compFn tt (cxA gl a))) 0 .nil := by kernel_rfl
theorem names_ok : (fnL.all fun fn => !(fn.name == "runtime.NumGoroutine")) = true := by kernel_rfl
theorem fnsOk (gl : Nat → Nat → Option V) (a : List (BinOp × IE × IE × Bool)) : FnsOk Tryz.prog (cxA gl a) tt (fns gl a) := by
  refine fns_ok (l := fnL) funcs_eq (fun fn h => ?_) (fun f d h => ?_)
  · have := List.all_eq_true.1 names_ok fn h
    simpa using this
  · unfold fns at h
    rw [← fnT_eq]
    split at h
    · rename_i x hx
      rw [hx, h]
    · cases h
theorem methOk (gl : Nat → Nat → Option V) (a : List (BinOp × IE × IE × Bool)) : MethOk Tryz.prog (cxA gl a) := methT_ok ttOk rfl
theorem extFns (gl : Nat → Nat → Option V) (a : List (BinOp × IE × IE × Bool)) : ExtFns Tryz.prog (cxA gl a) := by
  intro f k h
  simp only [cxA, ext, nbeq, bif_ite] at h
  split at h
  · rename_i hf
    subst hf
    simp only [Option.some.injEq] at h
    subst h
    exact ⟨_, Tryz.func291, by kernel_rfl, by kernel_rfl, by kernel_rfl, by kernel_rfl⟩
  · split at h
    · rename_i hf
      subst hf
      simp only [Option.some.injEq] at h
      subst h
      exact ⟨_, Tryz.func308, by kernel_rfl, by kernel_rfl, by kernel_rfl, by kernel_rfl⟩
    · cases h
theorem extOk (gl : Nat → Nat → Option V) (a : List (BinOp × IE × IE × Bool)) : ExtOk Tryz.prog (cxA gl a) := extOk_of (extFns gl a)
theorem mixed : (Tryz.prog).follows .mixedOrders = true := by kernel_rfl
end Go.Sk.Seat

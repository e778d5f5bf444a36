/- The program is what the tables say: see S7. -/
import Derived.Test.YtdheandekcpieaaGreatDoorAMT

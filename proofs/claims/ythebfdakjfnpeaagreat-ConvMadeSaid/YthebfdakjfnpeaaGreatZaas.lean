/- What the law ConvMade of layer 17 comes to, part 19. Conditions: none. -/
import Derived.Test.YthebfdakjfnpeaaGreatZaar
section

end
